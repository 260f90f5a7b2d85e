/- Part 1 of a proof: texts A B C C2 D E F. -/
import Derived.RangeFuncLeaves
import Derived.Laws.Rows
import Derived.Below
import Derived.Tactics
import Derived.WalkKit
import Derived.Laws.Tables
import Derived.Lib.Strings
import Derived.OrdersIn
namespace Go.Run
open Go
inductive DV where
 | bool (b : Bool)
 | int (k : IntKind) (n : Int)
 | str (s : List UInt8)
 | ptr (b off : Nat)
 | nilp
 | cptr (cs : List DV)
 | lst (cs : List DV) (n sz : Nat) (tag : Option (Nat × Nat))
 | nils
 | zc
 | win (b off n cap : Nat)
 | func (fn : Fn) (first cap : List DV)
 | nilfn
 | iface (t : TypeId) (v : DV)
 | nilif
 | agg (cs : List DV)
 | tup (vs : List DV)
 | mapr (b : Nat)
 | nilmap
 | junk
inductive DO where
 | cells (cs : List DV) (ty : TypeId)
 | front (f sz : Nat) (ty : TypeId)
 | mapo (es : List (DV × DV))
 | raw (o : Obj)
 | loop (N : Nat) (ps : List Nat) (as bd : Code) (fr : Nat → DV) (st : LoopState) (pend : Option Code)
abbrev Hp := Nat → Option DO
abbrev Zn := Nat → Prop
def Hp.upd (H : Hp) (b : Nat) (o : Option DO) : Hp := fun x => if x = b then o else H x
def Safe (H : Hp) (Z : Zn) (b i : Nat) : Prop := Z b ∨ ∃ f sz ty, H b = some (.front f sz ty) ∧ i < f * sz
def TagOK (w : World) (H : Hp) (A : Option Addr) (n c sz : Nat) (tag : Option (Nat × Nat)) : Prop :=
 ∀ b off, tag = some (b, off) → b < w.heap.size ∧ ∀ f sz' ty, H b = some (.front f sz' ty) →
  off + n ≤ f ∧ (off + n = f → sz' = sz ∧ A = some ⟨b, off * sz, none⟩ ∧ ∃ arr fz, w.heap[b]? = some (.cells arr ty fz) ∧ arr.size = (off + c) * sz)
inductive VR (w : World) (H : Hp) (Z : Zn) : Value → DV → Prop
 | junk (v : Value) : VR w H Z v .junk
 | bool (b : Bool) : VR w H Z (.bool b) (.bool b)
 | int (k : IntKind) (n : Int) : VR w H Z (.int k n) (.int k n)
 | str (s : ByteArray) (l : List UInt8) : s.data.toList = l → VR w H Z (.string s) (.str l)
 | ptr (b off : Nat) : VR w H Z (.pointer (some ⟨b, off, none⟩)) (.ptr b off)
 | nilp : VR w H Z (.pointer none) .nilp
 | cptr (a : Addr) (cs : List DV) (vs : Nat → Value) : a.spot = none →
   (∀ j, j < cs.length → w.cell? ⟨a.block, a.off + j, none⟩ = some (vs j) ∧ Safe H Z a.block (a.off + j)) → (∀ j, j < cs.length → (vs j).oneCell' = true) →
   (∀ (j : Nat) (d : DV), cs[j]? = some d → VR w H Z (vs j) d) → VR w H Z (.pointer (some a)) (.cptr cs)
 | lst (A : Option Addr) (n c sz : Nat) (cs : List DV) (tag : Option (Nat × Nat)) (vs : Nat → Value) : cs.length = n * sz → n ≤ c →
   (∀ j, j < cs.length → ∃ a, A = some a ∧ a.spot = none ∧ w.cell? ⟨a.block, a.off + j, none⟩ = some (vs j) ∧ Safe H Z a.block (a.off + j)) → (∀ j, j < cs.length → (vs j).oneCell' = true) →
   (∀ (j : Nat) (d : DV), cs[j]? = some d → VR w H Z (vs j) d) → TagOK w H A n c sz tag → VR w H Z (.slice A n c) (.lst cs n sz tag)
 | nils : VR w H Z (.slice none 0 0) .nils
 | zc (A : Option Addr) : VR w H Z (.slice A 0 0) .zc
 | win (b off n cap : Nat) : n ≤ cap → VR w H Z (.slice (some ⟨b, off, none⟩) n cap) (.win b off n cap)
 | func (fn : Fn) (first cap : Array Value) (df dc : List DV) : first.size = df.length → cap.size = dc.length →
   (∀ (j : Nat) (v : Value) (d : DV), first[j]? = some v → df[j]? = some d → VR w H Z v d) → (∀ (j : Nat) (v : Value) (d : DV), cap[j]? = some v → dc[j]? = some d → VR w H Z v d) →
   VR w H Z (.func fn first cap) (.func fn df dc)
 | nilfn : VR w H Z .nilFunc .nilfn
 | iface (t : TypeId) (v : Value) (d : DV) : VR w H Z v d → VR w H Z (.iface t v) (.iface t d)
 | nilif : VR w H Z .nilIface .nilif
 | agg (vs : Array Value) (cs : List DV) : vs.size = cs.length → (∀ (j : Nat) (v : Value), vs[j]? = some v → v.oneCell' = true) → (∀ (j : Nat) (v : Value) (d : DV), vs[j]? = some v → cs[j]? = some d → VR w H Z v d) → VR w H Z (.agg vs) (.agg cs)
 | tup (vs : Array Value) (cs : List DV) : vs.size = cs.length → (∀ (j : Nat) (v : Value) (d : DV), vs[j]? = some v → cs[j]? = some d → VR w H Z v d) → VR w H Z (.tuple vs) (.tup cs)
 | mapr (b : Nat) : VR w H Z (.map (some b)) (.mapr b)
 | nilmap : VR w H Z (.map none) .nilmap
def OR (w : World) (H : Hp) (Z : Zn) (b : Nat) : DO → Prop
 | .cells cs ty => ∃ arr fz, w.heap[b]? = some (.cells arr ty fz) ∧ (fz.2 = 0 ∨ arr.size ≤ fz.1) ∧ arr.size = cs.length ∧ (∀ (j : Nat) (v : Value), arr[j]? = some v → v.oneCell' = true) ∧ ∀ (j : Nat) (v : Value) (d : DV), arr[j]? = some v → cs[j]? = some d → VR w H Z v d
 | .front f sz ty => ∃ arr fz cap, w.heap[b]? = some (.cells arr ty fz) ∧ f ≤ cap ∧ arr.size = cap * sz ∧ (fz.2 ≤ f * sz ∨ arr.size ≤ fz.1)
 | .mapo es => ∃ (ms : Array MapEntry) (clock : Nat), w.heap[b]? = some (.map ms clock) ∧ ms.size = es.length ∧
   (∀ (j : Nat) (m : MapEntry) (e : DV × DV), ms[j]? = some m → es[j]? = some e → VR w H Z m.key e.1 ∧ VR w H Z m.val e.2)
 | .raw o => w.heap[b]? = some o ∧ ∀ c e f, o ≠ .cells c e f
 | .loop N ps as bd fr st pend => ∃ L : Loop, w.heap[b]? = some (.loop L) ∧ L.state = st ∧ L.pending = pend ∧ L.params.toList = ps ∧ L.assign = as ∧ L.body = bd ∧ L.tmps.size = N ∧ ∀ t, t < N → VR w H Z (L.tmps.getD t undef) (fr t)
abbrev Gl := Nat → Option (List DV)
structure HR (G : Gl) (w : World) (H : Hp) (Z : Zn) : Prop where
 dom : ∀ b o, H b = some o → b < w.heap.size ∧ ¬ Z b
 zlt : ∀ b, Z b → b < w.heap.size
 obj : ∀ b o, H b = some o → OR w H Z b o
 glob : ∀ g cs, G g = some cs → VR w H Z (.pointer (some ⟨g, 0, none⟩)) (.cptr cs)
structure Ext (w : World) (H : Hp) (Z : Zn) (w' : World) (H' : Hp) (Z' : Zn) : Prop where
 size : w.heap.size ≤ w'.heap.size
 os : w'.os = w.os
 tape : w'.tape = w.tape
 output : w'.output = w.output
 imm : ∀ b, Z b → Z' b ∧ H' b = none ∧ w'.heap[b]? = w.heap[b]?
 priv : ∀ b, b < w.heap.size → ¬ Z b → H b = none → ¬ Z' b ∧ H' b = none ∧ w'.heap[b]? = w.heap[b]?
 frt : ∀ b f sz ty, H' b = some (.front f sz ty) → b < w.heap.size → ∃ f0, H b = some (.front f0 sz ty) ∧ f0 ≤ f
 pre : ∀ b f sz ty, H b = some (.front f sz ty) → (Z' b ∨ ∃ f', f ≤ f' ∧ H' b = some (.front f' sz ty)) ∧
  ∀ arr fz, w.heap[b]? = some (.cells arr ty fz) → ∃ arr' fz', w'.heap[b]? = some (.cells arr' ty fz') ∧ arr'.size = arr.size ∧ ∀ j, j < f * sz → arr'[j]? = arr[j]?
theorem Ext.refl {G : Gl} {w : World} {H : Hp} {Z : Zn} (h : HR G w H Z) : Ext w H Z w H Z :=
 ⟨Nat.le_refl _, rfl, rfl, rfl, fun b hb => ⟨hb, by
   cases e : H b with
   | none => rfl
   | some o => exact absurd hb (h.dom b o e).2, rfl⟩, fun b _ hz hh => ⟨hz, hh, rfl⟩, fun b f sz ty hb _ => ⟨f, hb, Nat.le_refl _⟩,
  fun b f sz ty hb => ⟨.inr ⟨f, Nat.le_refl _, hb⟩, fun arr fz ha => ⟨arr, fz, ha, rfl, fun _ _ => rfl⟩⟩⟩
theorem Ext.trans {w w1 w2 : World} {H H1 H2 : Hp} {Z Z1 Z2 : Zn} (h : Ext w H Z w1 H1 Z1) (k : Ext w1 H1 Z1 w2 H2 Z2) : Ext w H Z w2 H2 Z2 where
 size := Nat.le_trans h.size k.size
 os := k.os.trans h.os
 tape := k.tape.trans h.tape
 output := k.output.trans h.output
 imm := fun b hb => by
  obtain ⟨a1, a2, a3⟩ := h.imm b hb
  obtain ⟨b1, b2, b3⟩ := k.imm b a1
  exact ⟨b1, b2, b3.trans a3⟩
 priv := fun b hb hz hh => by
  obtain ⟨a1, a2, a3⟩ := h.priv b hb hz hh
  obtain ⟨b1, b2, b3⟩ := k.priv b (Nat.lt_of_lt_of_le hb h.size) a1 a2
  exact ⟨b1, b2, b3.trans a3⟩
 frt := fun b f sz ty hb hlt => by
  obtain ⟨f1, h1, l1⟩ := k.frt b f sz ty hb (Nat.lt_of_lt_of_le hlt h.size)
  obtain ⟨f0, h0, l0⟩ := h.frt b f1 sz ty h1 hlt
  exact ⟨f0, h0, Nat.le_trans l0 l1⟩
 pre := fun b f sz ty hb => by
  obtain ⟨h1, h2⟩ := h.pre b f sz ty hb
  rcases h1 with h1 | ⟨f1, l1, h1⟩
  · obtain ⟨k1, _, k3⟩ := k.imm b h1
    refine ⟨.inl k1, fun arr fz ha => ?_⟩
    obtain ⟨arr', fz', e1, e2, e3⟩ := h2 arr fz ha
    exact ⟨arr', fz', k3.trans e1, e2, e3⟩
  · obtain ⟨k1, k2⟩ := k.pre b f1 sz ty h1
    refine ⟨?_, fun arr fz ha => ?_⟩
    · rcases k1 with k1 | ⟨f2, l2, k1⟩
      · exact .inl k1
      · exact .inr ⟨f2, Nat.le_trans l1 l2, k1⟩
    · obtain ⟨arr', fz', e1, e2, e3⟩ := h2 arr fz ha
      obtain ⟨arr2, fz2, g1, g2, g3⟩ := k2 arr' fz' e1
      exact ⟨arr2, fz2, g1, g2.trans e2, fun j hj => (g3 j (Nat.lt_of_lt_of_le hj (Nat.mul_le_mul_right _ l1))).trans (e3 j hj)⟩
theorem Ext.cell {G : Gl} {w w' : World} {H H' : Hp} {Z Z' : Zn} (hr : HR G w H Z) (h : Ext w H Z w' H' Z') {b i : Nat} {v : Value} (hs : Safe H Z b i) (hc : w.cell? ⟨b, i, none⟩ = some v) :
  w'.cell? ⟨b, i, none⟩ = some v ∧ Safe H' Z' b i := by
 rcases hs with hz | ⟨f, sz, ty, hf, hi⟩
 · obtain ⟨a1, _, a3⟩ := h.imm b hz
   exact ⟨(World.cell?_of_block (a := ⟨b, i, none⟩) a3).trans hc, .inl a1⟩
 · obtain ⟨h1, h2⟩ := h.pre b f sz ty hf
   obtain ⟨arr, fz, cap, e1, _, _, _⟩ := hr.obj b _ hf
   obtain ⟨arr', fz', g1, g2, g3⟩ := h2 arr fz e1
   refine ⟨?_, ?_⟩
   · rw [cell_of_row w' b i arr' ty fz' g1, g3 i hi, ← cell_of_row w b i arr ty fz e1]; exact hc
   · rcases h1 with h1 | ⟨f', l, h1⟩
     · exact .inl h1
     · exact .inr ⟨f', sz, ty, h1, Nat.lt_of_lt_of_le hi (Nat.mul_le_mul_right _ l)⟩
theorem Ext.tag {w w' : World} {H H' : Hp} {Z Z' : Zn} (h : Ext w H Z w' H' Z') {A : Option Addr} {n c sz : Nat} {tag : Option (Nat × Nat)} (ht : TagOK w H A n c sz tag) :
  TagOK w' H' A n c sz tag := by
 intro b off e
 obtain ⟨hb, hk⟩ := ht b off e
 refine ⟨Nat.lt_of_lt_of_le hb h.size, fun f sz' ty hf => ?_⟩
 obtain ⟨f0, h0, l0⟩ := h.frt b f sz' ty hf hb
 obtain ⟨l1, hk⟩ := hk f0 sz' ty h0
 refine ⟨Nat.le_trans l1 l0, fun e1 => ?_⟩
 have e0 : off + n = f0 := by omega
 obtain ⟨k1, k2, arr, fz, k3, k4⟩ := hk e0
 obtain ⟨_, h2⟩ := h.pre b f0 sz' ty h0
 obtain ⟨arr', fz', g1, g2, g3⟩ := h2 arr fz k3
 exact ⟨k1, k2, arr', fz', g1, g2.trans k4⟩
theorem VR.ext {G : Gl} {w w' : World} {H H' : Hp} {Z Z' : Zn} (hr : HR G w H Z) (h : Ext w H Z w' H' Z') {v : Value} {d : DV} (hv : VR w H Z v d) : VR w' H' Z' v d := by
 induction hv with
 | junk v => exact .junk v
 | bool b => exact .bool b
 | int k n => exact .int k n
 | str s l e => exact .str s l e
 | ptr b off => exact .ptr b off
 | nilp => exact .nilp
 | cptr a cs vs hs hc ho _ ih =>
   refine .cptr a cs vs hs (fun j hj => ?_) ho ih
   obtain ⟨c1, c2⟩ := hc j hj
   exact h.cell hr c2 c1
 | lst A n c sz cs tag vs h1 h2 hc ho _ ht ih =>
   refine .lst A n c sz cs tag vs h1 h2 (fun j hj => ?_) ho ih (h.tag ht)
   obtain ⟨a, e1, e2, c1, c2⟩ := hc j hj
   obtain ⟨g1, g2⟩ := h.cell hr c2 c1
   exact ⟨a, e1, e2, g1, g2⟩
 | nils => exact .nils
 | zc A => exact .zc A
 | win b off n cap h => exact .win b off n cap h
 | func fn first cap df dc e1 e2 _ _ ih1 ih2 => exact .func fn first cap df dc e1 e2 ih1 ih2
 | nilfn => exact .nilfn
 | iface t v d _ ih => exact .iface t v d ih
 | nilif => exact .nilif
 | agg vs cs e ho _ ih => exact .agg vs cs e ho ih
 | tup vs cs e _ ih => exact .tup vs cs e ih
 | mapr b => exact .mapr b
 | nilmap => exact .nilmap
def Marks (w : World) (H : Hp) (Z : Zn) (base : Nat) (ds : List Deferred) : Prop :=
 (∀ d ∈ ds, ∃ b, d.target = .collected b ∧ base ≤ b ∧ b < w.heap.size ∧ ¬ Z b ∧ H b = none ∧ w.heap[b]? = some (.deferred (some []))) ∧
 (ds.map fun d => match d.target with | .collected b => b | _ => 0).Nodup
theorem Marks.ext {w w' : World} {H H' : Hp} {Z Z' : Zn} (h : Ext w H Z w' H' Z') {base : Nat} {ds : List Deferred} (hm : Marks w H Z base ds) : Marks w' H' Z' base ds :=
 ⟨fun d hd => by
  obtain ⟨b, e, h0, h1, h2, h3, h4⟩ := hm.1 d hd
  obtain ⟨k1, k2, k3⟩ := h.priv b h1 h2 h3
  exact ⟨b, e, h0, Nat.lt_of_lt_of_le h1 h.size, k1, k2, k3.trans h4⟩, hm.2⟩
abbrev BS := Nat × List Deferred
def MarksB (w : World) (H : Hp) (Z : Zn) (base : BS) (ds : List Deferred) : Prop := ∃ ms, ds = ms ++ base.2 ∧ Marks w H Z base.1 ms
theorem MarksB.nil {w : World} {H : Hp} {Z : Zn} {n : Nat} : MarksB w H Z (n, []) [] := ⟨[], rfl, fun d hd => (by simp at hd), by simp⟩
theorem MarksB.ext {w w' : World} {H H' : Hp} {Z Z' : Zn} (h : Ext w H Z w' H' Z') {base : BS} {ds : List Deferred} (hm : MarksB w H Z base ds) : MarksB w' H' Z' base ds :=
 let ⟨ms, e, m⟩ := hm; ⟨ms, e, m.ext h⟩
abbrev Fr := Nat → DV
def Fr.set (fr : Fr) (t : Nat) (d : DV) : Fr := fun x => bif Nat.beq x t then d else fr x
structure FR (w : World) (H : Hp) (Z : Zn) (base : BS) (N : Nat) (a : Act) (fr : Fr) : Prop where
 size : a.tmps.size = N
 vals : ∀ t, t < N → VR w H Z (a.tmps.getD t undef) (fr t)
 marks : MarksB w H Z base a.defers
 low : base.1 ≤ w.heap.size
theorem FR.ext {G : Gl} {w w' : World} {H H' : Hp} {Z Z' : Zn} (hr : HR G w H Z) (h : Ext w H Z w' H' Z') {base : BS} {N : Nat} {a : Act} {fr : Fr} (hf : FR w H Z base N a fr) : FR w' H' Z' base N a fr :=
 ⟨hf.size, fun t ht => (hf.vals t ht).ext hr h, hf.marks.ext h, Nat.le_trans hf.low h.size⟩
theorem FR.put {w : World} {H : Hp} {Z : Zn} {base : BS} {N : Nat} {a : Act} {fr : Fr} (hf : FR w H Z base N a fr) {t : Nat} {v : Value} {d : DV} (hv : VR w H Z v d) : FR w H Z base N (a.put (some t) v) (fr.set t d) := by
 refine ⟨by simp [Act.put, hf.size], fun u hu => ?_, hf.marks, hf.low⟩
 have e : (a.put (some t) v).tmps = a.tmps.setIfInBounds t v := rfl
 rw [e]
 have hs := hf.size
 by_cases h : u = t
 · subst h
   have : (a.tmps.setIfInBounds u v).getD u undef = v := by
    rw [Array.getD_eq_getD_getElem?, Array.getElem?_setIfInBounds]; simp [hs, hu]
   rw [this]
   simpa [Fr.set] using hv
 · have : (a.tmps.setIfInBounds t v).getD u undef = a.tmps.getD u undef := by
    rw [Array.getD_eq_getD_getElem?, Array.getD_eq_getD_getElem?, Array.getElem?_setIfInBounds, if_neg (fun e => h e.symm)]
   rw [this]
   have hb : Nat.beq u t = false := by
    cases hb : Nat.beq u t with
    | false => rfl
    | true => exact absurd (Nat.eq_of_beq_eq_true hb) h
   simpa [Fr.set, hb] using hf.vals u hu
theorem FR.weak {w : World} {H : Hp} {Z : Zn} {base : BS} {N : Nat} {a : Act} {fr fr' : Fr} (hf : FR w H Z base N a fr) (h : ∀ t, fr' t = fr t ∨ fr' t = .junk) : FR w H Z base N a fr' :=
 ⟨hf.size, fun t ht => by
  rcases h t with e | e
  · rw [e]; exact hf.vals t ht
  · rw [e]; exact .junk _, hf.marks, hf.low⟩
inductive EX where
 | normal | exit (id : Nat) | ret | panic (d : DV)
def ER (w : World) (H : Hp) (Z : Zn) : Exit → EX → Prop
 | .normal, .normal => True
 | .exit i, .exit j => i = j
 | .ret, .ret => True
 | .panic chain, .panic d => ∃ v, chain = [{ v, recovered := false }] ∧ VR w H Z v d
 | _, _ => False
def Wd (r : Option Nat) : Fence := { Fence.wide with round := r }
section
variable (P : Program) (G : Gl) (r : Option Nat) (N : Nat)
def Post (Q : EX → Fr → Hp → Prop) (base : BS) (w : World) (H : Hp) (Z : Zn) : Exit → Act → World → Prop := fun e a' w' =>
 ∃ ex fr' H' Z', Q ex fr' H' ∧ ER w' H' Z' e ex ∧ HR G w' H' Z' ∧ FR w' H' Z' base N a' fr' ∧ Ext w H Z w' H' Z'
def AW (c : Code) (Q : EX → Fr → Hp → Prop) (fr : Fr) (H : Hp) : Prop :=
 ∀ n base w Z a, HR G w H Z → FR w H Z base N a fr → c.wpIn (Wd r) n P (Post G N Q base w H Z) a w
variable {P G r N}
theorem Post.mono {Q Q' : EX → Fr → Hp → Prop} {w : World} {H : Hp} {Z : Zn} {base : BS} {e : Exit} {a : Act} {w' : World} (h : Post G N Q base w H Z e a w') (hq : ∀ e fr H, Q e fr H → Q' e fr H) : Post G N Q' base w H Z e a w' :=
 let ⟨ex, fr', H', Z', q, rest⟩ := h; ⟨ex, fr', H', Z', hq _ _ _ q, rest⟩
theorem Post.before {Q : EX → Fr → Hp → Prop} {w w1 : World} {H H1 : Hp} {Z Z1 : Zn} {base : BS} {e : Exit} {a : Act} {w' : World} (hx : Ext w H Z w1 H1 Z1) (h : Post G N Q base w1 H1 Z1 e a w') : Post G N Q base w H Z e a w' :=
 let ⟨ex, fr', H', Z', q, k1, k2, k3, k4⟩ := h; ⟨ex, fr', H', Z', q, k1, k2, k3, hx.trans k4⟩
theorem AW.mono {c : Code} {Q Q' : EX → Fr → Hp → Prop} {fr : Fr} {H : Hp} (h : AW P G r N c Q fr H) (hq : ∀ e fr H, Q e fr H → Q' e fr H) : AW P G r N c Q' fr H :=
 fun n base w Z a hr hf => wpIn_mono (h n base w Z a hr hf) fun _ _ _ hp => hp.mono hq
theorem AW.skip {Q : EX → Fr → Hp → Prop} {fr : Fr} {H : Hp} (h : Q .normal fr H) : AW P G r N .skip Q fr H :=
 fun _ _ _ Z _ hr hf => wpIn_skip ⟨.normal, fr, H, Z, h, trivial, hr, hf, .refl hr⟩
theorem AW.exit {Q : EX → Fr → Hp → Prop} {fr : Fr} {H : Hp} {id : Nat} (h : Q (.exit id) fr H) : AW P G r N (.exit id) Q fr H :=
 fun _ _ _ Z _ hr hf => wpIn_exit ⟨.exit id, fr, H, Z, h, rfl, hr, hf, .refl hr⟩
theorem AW.ret {Q : EX → Fr → Hp → Prop} {fr : Fr} {H : Hp} (h : Q .ret fr H) : AW P G r N .ret Q fr H :=
 fun _ _ _ Z _ hr hf => wpIn_ret ⟨.ret, fr, H, Z, h, trivial, hr, hf, .refl hr⟩
def Nx (next : Fr → Hp → Prop) (Q : EX → Fr → Hp → Prop) : EX → Fr → Hp → Prop
 | .normal, fr, H => next fr H
 | e, fr, H => Q e fr H
theorem Post.then {next : Fr → Hp → Prop} {Q : EX → Fr → Hp → Prop} {w : World} {H : Hp} {Z : Zn} {base : BS} {e : Exit} {a : Act} {w' : World} {K : Act → World → Prop}
  (h : Post G N (Nx next Q) base w H Z e a w')
  (hk : ∀ a1 w1 fr1 H1 Z1, next fr1 H1 → HR G w1 H1 Z1 → FR w1 H1 Z1 base N a1 fr1 → Ext w H Z w1 H1 Z1 → K a1 w1) :
  Exit.then K (Post G N Q base w H Z) e a w' := by
 obtain ⟨ex, fr', H', Z', q, k1, k2, k3, k4⟩ := h
 cases e <;> cases ex <;> try exact k1.elim
 · exact hk a w' fr' H' Z' q k2 k3 k4
 all_goals exact ⟨_, fr', H', Z', q, k1, k2, k3, k4⟩
theorem AW.seq {x y : Code} {Q : EX → Fr → Hp → Prop} {fr : Fr} {H : Hp} (h : AW P G r N x (Nx (AW P G r N y Q) Q) fr H) : AW P G r N (.seq x y) Q fr H := by
 intro n base w Z a hr hf
 refine wpIn_seq (wpIn_mono (h n base w Z a hr hf) fun e a' w' hp => hp.then fun a1 w1 fr1 H1 Z1 hy hr1 hf1 hx => ?_)
 exact wpIn_mono (hy n base w1 Z1 a1 hr1 hf1) fun _ _ _ hp => hp.before hx
def Bk (id : Nat) (Q : EX → Fr → Hp → Prop) : EX → Fr → Hp → Prop
 | .exit id', fr, H => if id' = id then Q .normal fr H else Q (.exit id') fr H
 | e, fr, H => Q e fr H
theorem AW.block {id : Nat} {c : Code} {Q : EX → Fr → Hp → Prop} {fr : Fr} {H : Hp} (h : AW P G r N c (Bk id Q) fr H) : AW P G r N (.block id c) Q fr H := by
 intro n base w Z a hr hf
 refine wpIn_block (wpIn_mono (h n base w Z a hr hf) fun e a' w' hp => ?_)
 obtain ⟨ex, fr', H', Z', q, k1, k2, k3, k4⟩ := hp
 cases e <;> cases ex <;> try exact k1.elim
 case exit.exit i j =>
  cases (k1 : i = j)
  by_cases hi : i = id
  · simp only [Exit.inBlock, hi, if_true]; simp only [Bk, hi, if_true] at q
    exact ⟨.normal, fr', H', Z', q, trivial, k2, k3, k4⟩
  · simp only [Exit.inBlock, hi, if_false]; simp only [Bk, hi, if_false] at q
    exact ⟨.exit i, fr', H', Z', q, rfl, k2, k3, k4⟩
 all_goals exact ⟨_, fr', H', Z', q, k1, k2, k3, k4⟩
theorem stepsIn_tail {I : Machine → Prop} {m m1 m2 m' : Machine} (h : StepsIn I P m m') (hne : m ≠ m') (h1 : step P m = .next m1) (h2 : step P m2 = .next m1) (hI : I m2) : StepsIn I P m2 m' := by
 cases h with
 | refl => exact absurd rfl hne
 | head hI' hs hrest =>
   rw [h1] at hs
   cases hs
   exact .head hI h2 hrest
theorem lone_inj {fr fr' : Frame} {cs cs' : List Frame} {w w' : World} (h : lone fr cs w = lone fr' cs' w') : fr = fr' := by
 have := congrArg (fun m : Machine => (m.gs[0]?).map (·.frame)) h
 simpa [lone] using this
theorem exitTo_len {id : Nat} {k k' : List Item} (h : exitTo id k = some k') : k'.length < k.length := by
 induction k with
 | nil => simp [exitTo] at h
 | cons x k ih =>
   cases x <;> simp only [exitTo] at h <;> try (have := ih h; simp; omega)
   split at h
   · cases h; simp
   · have := ih h; simp; omega
theorem wpIn_loop_unfold {F : Fence} {n : Nat} {c : Code} {Q : Exit → Act → World → Prop} {a : Act} {w : World} (hg : ∀ l a w, ¬ Q (.goto l) a w) (ho : ∀ a w, ¬ Q .outgrown a w)
  (h : c.wpIn F n P (Exit.then ((Code.loop c).wpIn F n P Q) Q) a w) : (Code.loop c).wpIn F n P Q a w := by
 intro b k cs hro hb hr
 obtain ⟨e, a₁, w₁, hq, harr⟩ := h b (.inLoop c :: k) cs hro hb hr
 have s0 : StepsIn (Machine.fenced P F) P (lone (b.atR a (.code (.loop c) :: k)) cs w) (lone (b.atR a (.code c :: .inLoop c :: k)) cs w) := .one (fenced_calm hb hr rfl) stepR_loop
 cases e with
 | exit id => exact ⟨_, a₁, w₁, hq, .of_steps s0 (.pass (x := .inLoop c) rfl (fun _ _ => .inl (by simp)) harr)⟩
 | goto l => exact absurd hq (hg l a₁ w₁)
 | ret => exact ⟨_, a₁, w₁, hq, .of_steps s0 (.pass (x := .inLoop c) rfl (fun _ _ => .inl (by simp)) harr)⟩
 | panic ch => exact ⟨_, a₁, w₁, hq, .of_steps s0 (.pass (x := .inLoop c) rfl (fun _ _ => .inl (by simp)) harr)⟩
 | outgrown => exact ⟨_, a₁, w₁, hq, .of_steps s0 (.pass (x := .inLoop c) rfl (fun _ _ => .inl (by simp)) harr)⟩
 | normal =>
   obtain ⟨e₂, a₂, w₂, hq₂, harr₂⟩ := hq b k cs hro hb hr
   have hA : StepsIn (Machine.fenced P F) P (lone (b.atR a (.code (.loop c) :: k)) cs w) (lone (b.atR a₁ (.inLoop c :: k)) cs w₁) := s0.trans harr
   have hI : Machine.fenced P F (lone (b.atR a₁ (.inLoop c :: k)) cs w₁) := fenced_calm hb hr rfl
   have tail : ∀ m', lone (b.atR a₁ (.code (.loop c) :: k)) cs w₁ ≠ m' → StepsIn (Machine.fenced P F) P (lone (b.atR a₁ (.code (.loop c) :: k)) cs w₁) m' →
     StepsIn (Machine.fenced P F) P (lone (b.atR a (.code (.loop c) :: k)) cs w) m' :=
    fun m' hne hs => hA.trans (stepsIn_tail hs hne stepR_loop stepR_inLoop hI)
   have neTodo : ∀ (a' : Act) (t : List Item) (w' : World), t ≠ .code (.loop c) :: k → lone (b.atR a₁ (.code (.loop c) :: k)) cs w₁ ≠ lone (b.atR a' t) cs w' := by
    intro a' t w' hne he
    have := congrArg Frame.todo (lone_inj he)
    simp only [Frame.atR] at this
    exact hne this.symm
   have neMode : ∀ (a' : Act) (t : List Item) (w' : World) (m : FrameMode), m ≠ .run → lone (b.atR a₁ (.code (.loop c) :: k)) cs w₁ ≠ lone { b.atR a' t with mode := m } cs w' := by
    intro a' t w' m hne he
    have := congrArg Frame.mode (lone_inj he)
    simp only [Frame.atR] at this
    exact hne this.symm
   refine ⟨e₂, a₂, w₂, hq₂, ?_⟩
   cases e₂ with
   | normal => exact tail _ (neTodo _ _ _ (by intro he; have := congrArg List.length he; simp at this)) harr₂
   | exit id =>
     refine ⟨fun k' hk => tail _ (neTodo _ _ _ (by intro he; have := exitTo_len hk; rw [he] at this; simp at this; omega)) (harr₂.1 k' hk), fun h1 h2 => ?_⟩
     obtain ⟨k₁, g1, g2⟩ := harr₂.2 h1 h2
     exact ⟨k₁, g1, tail _ (neTodo _ _ _ (by intro he; cases he)) g2⟩
   | goto l => exact absurd hq₂ (hg l a₂ w₂)
   | ret =>
     refine ⟨fun h1 => ?_, fun h1 => ?_⟩
     · obtain ⟨todo, g⟩ := harr₂.1 h1
       exact ⟨todo, tail _ (neMode _ _ _ _ (by simp)) g⟩
     · obtain ⟨k₁, g⟩ := harr₂.2 h1
       exact ⟨k₁, tail _ (neTodo _ _ _ (by intro he; cases he)) g⟩
   | panic chain =>
     obtain ⟨todo, g⟩ := harr₂
     exact ⟨todo, tail _ (neMode _ _ _ _ (by simp)) g⟩
   | outgrown => exact absurd hq₂ (ho a₂ w₂)
theorem AW.loop {c : Code} {Q : EX → Fr → Hp → Prop} {fr : Fr} {H : Hp} (h : AW P G r N c (Nx (AW P G r N (.loop c) Q) Q) fr H) : AW P G r N (.loop c) Q fr H := by
 intro n base w Z a hr hf
 refine wpIn_loop_unfold (fun l a' w' hp => ?_) (fun a' w' hp => ?_) (wpIn_mono (h n base w Z a hr hf) fun e a' w' hp => hp.then fun a1 w1 fr1 H1 Z1 hy hr1 hf1 hx => ?_)
 · obtain ⟨ex, _, _, _, _, k1, _⟩ := hp
   cases ex <;> exact k1.elim
 · obtain ⟨ex, _, _, _, _, k1, _⟩ := hp
   cases ex <;> exact k1.elim
 · exact wpIn_mono (hy n base w1 Z1 a1 hr1 hf1) fun _ _ _ hp => hp.before hx
end
inductive X where
 | t (n : Nat) | c (d : DV) | g (n : Nat)
def cV0 : Value → DV
 | .bool b => .bool b
 | .int k n => .int k n
 | .string s => .str s.data.toList
 | .pointer none => .nilp
 | .slice none 0 0 => .nils
 | .nilFunc => .nilfn
 | .nilIface => .nilif
 | .map none => .nilmap
 | _ => .junk
def cV : Value → DV
 | .agg vs => if vs.all (·.oneCell') then .agg (vs.toList.map cV0) else .junk
 | v => cV0 v
def cX : Operand → X
 | .tmp t => .t t
 | .const v => .c (cV v)
 | .global g => .g g
 | .func f => .c (.func (.func f) [] [])
def XV (G : Gl) (fr : Fr) : X → DV
 | .t n => fr n
 | .c d => d
 | .g n => match G n with | some cs => .cptr cs | none => .junk
def XOk (N : Nat) : X → Bool
 | .t n => decide (n < N)
 | _ => true
theorem cV0_sound {w : World} {H : Hp} {Z : Zn} (v : Value) : VR w H Z v (cV0 v) := by
 unfold cV0
 split
 · exact .bool _
 · exact .int _ _
 · exact .str _ _ rfl
 · exact .nilp
 · exact .nils
 · exact .nilfn
 · exact .nilif
 · exact .nilmap
 · exact .junk _
theorem cV_sound {w : World} {H : Hp} {Z : Zn} (v : Value) : VR w H Z v (cV v) := by
 unfold cV
 split
 · rename_i vs
   split
   · rename_i h
     have h' := Array.all_eq_true.1 h
     refine .agg _ _ (by simp) (fun j v hj => ?_) (fun j v d hj hd => ?_)
     · obtain ⟨hlt, rfl⟩ := Array.getElem?_eq_some_iff.1 hj
       exact h' j hlt
     · rw [List.getElem?_map, Array.getElem?_toList, hj] at hd
       simp only [Option.map_some, Option.some.injEq] at hd
       subst hd
       exact cV0_sound v
   · exact .junk _
 · exact cV0_sound v
section
variable {P : Program} {G : Gl} {N : Nat}
theorem cX_sound {w : World} {H : Hp} {Z : Zn} {base : BS} {a : Act} {fr : Fr} (hr : HR G w H Z) (hf : FR w H Z base N a fr) {x : Operand} (hx : XOk N (cX x) = true) : VR w H Z (a.eval x) (XV G fr (cX x)) := by
 cases x with
 | tmp t => exact hf.vals t (by simpa [XOk, cX] using hx)
 | const v => exact cV_sound v
 | global g =>
   simp only [cX, XV, Act.eval]
   cases hg : G g with
   | none => exact .junk _
   | some cs => exact hr.glob g cs hg
 | func f => exact .func _ _ _ _ _ rfl rfl (fun j v d h => by simp at h) (fun j v d h => by simp at h)
end
inductive EK where
 | bool | ptr | slice | func | map | iface
inductive OP where
 | mv (x : X) | pick (c a b : X) | len (str : Bool) (x : X) | bin (op : BinOp) (x y : X) | eqn (neg : Bool) (k : EK) (x y : X)
 | un (op : UnOp) (x : X) | conv (k : IntKind) (x : X) | ext (x : X) (i : Nat)
 | fld (agg : Bool) (off sz : Nat) (x : X) | idx (x i : X) | idxA (agg : Bool) (len sz : Nat) (x i : X)
 | fadr (off : Nat) (x : X) | iadr (sz : Nat) (x i : X) | iadrA (len sz : Nat) (x i : X)
 | ld (agg : Bool) (sz : Nat) (x : X) | nilc (x : X) | mkif (t : TypeId) (x : X) | mkfn (fn : Fn) (first cap : List X)
 | slcS (x : X) (lo hi : Option X) | slc (sz : Nat) (x : X) (lo hi mx : Option X) | slcA (n sz : Nat) (x : X) (lo hi : Option X)
 | bld (zero : List DV) (parts : List (Nat × Nat × X))
 | mx (x y : X) | mn (x y : X)
 | st (sz : Nat) (x y : X) | alloc (zero : List DV) (ty : TypeId) | box (ty : TypeId) (x : X)
 | bsl (ty : TypeId) (len sz : Nat) (zero : List DV) (parts : List (Nat × Nat × X))
 | app (ty sz bytes : Nat) (x y : X)
 | s2s (x : X) | s2b (ty : TypeId) (x : X) | b2s (x : X) | i2s (x : X)
 | call (f : FuncId) (args : List X) | calv (x : X) (args : List X)
 | pan (x : X)
 | oth (o : Op)
def binI : BinOp → IntKind → Int → Int → Option DV
 | .add, k, a, b => some (.int k (k.wrap (a + b)))
 | .sub, k, a, b => some (.int k (k.wrap (a - b)))
 | .mul, k, a, b => some (.int k (k.wrap (a * b)))
 | .quo, k, a, b => if b = 0 then none else some (.int k (k.wrap (a.tdiv b)))
 | .rem, k, a, b => if b = 0 then none else some (.int k (a.tmod b))
 | .and, k, a, b => some (.int k (k.wrap ((BitVec.ofInt k.bits a &&& BitVec.ofInt k.bits b).toNat)))
 | .or, k, a, b => some (.int k (k.wrap ((BitVec.ofInt k.bits a ||| BitVec.ofInt k.bits b).toNat)))
 | .xor, k, a, b => some (.int k (k.wrap ((BitVec.ofInt k.bits a ^^^ BitVec.ofInt k.bits b).toNat)))
 | .andNot, k, a, b => some (.int k (k.wrap ((BitVec.ofInt k.bits a &&& ~~~ BitVec.ofInt k.bits b).toNat)))
 | .eql, _, a, b => some (.bool (a == b))
 | .neq, _, a, b => some (.bool (a != b))
 | .lss, _, a, b => some (.bool (decide (a < b)))
 | .leq, _, a, b => some (.bool (decide (a ≤ b)))
 | .gtr, _, a, b => some (.bool (decide (a > b)))
 | .geq, _, a, b => some (.bool (decide (a ≥ b)))
 | _, _, _, _ => none
def shI : BinOp → IntKind → Int → Int → Option DV
 | .shl, k, a, b => if b < 0 then none else some (.int k (k.wrap (a * 2 ^ (min b.toNat k.bits))))
 | .shr, k, a, b => if b < 0 then none else some (.int k (a.fdiv (2 ^ (min b.toNat k.bits))))
 | _, _, _, _ => none
def binS : BinOp → List UInt8 → List UInt8 → Option DV
 | .add, a, b => if a.length + b.length ≤ 9223372036854775807 then some (.str (a ++ b)) else none
 | .eql, a, b => some (.bool (a == b))
 | .neq, a, b => some (.bool (!(a == b)))
 | .lss, a, b => some (.bool (Op.bytesLess a b))
 | .leq, a, b => some (.bool (Op.bytesLess a b || a == b))
 | .gtr, a, b => some (.bool (!(Op.bytesLess a b || a == b)))
 | .geq, a, b => some (.bool (!Op.bytesLess a b))
 | _, _, _ => none
def binD : BinOp → DV → DV → Option DV
 | op, .int k a, .int k' b => match op with
   | .shl | .shr => shI op k a b
   | _ => if k = k' then binI op k a b else none
 | op, .str a, .str b => binS op a b
 | _, _, _ => none
def isNeq : BinOp → Bool
 | .neq => true
 | _ => false
def eqD : EK → DV → DV → Option Bool
 | .bool, .bool a, .bool b => some (a == b)
 | .ptr, .nilp, .nilp => some true
 | .ptr, .nilp, .ptr _ _ => some false
 | .ptr, .ptr _ _, .nilp => some false
 | .ptr, .nilp, .cptr _ => some false
 | .ptr, .cptr _, .nilp => some false
 | .ptr, .ptr b o, .ptr b' o' => if b = b' then some (o == o') else none
 | .slice, .nils, .nils => some true
 | .slice, .nils, .lst (_ :: _) _ _ _ => some false
 | .slice, .lst (_ :: _) _ _ _, .nils => some false
 | .slice, .nils, .win _ _ _ _ => some false
 | .slice, .win _ _ _ _, .nils => some false
 | .func, .nilfn, .nilfn => some true
 | .func, .nilfn, .func _ _ _ => some false
 | .func, .func _ _ _, .nilfn => some false
 | .iface, .nilif, .iface _ _ => some false
 | .iface, .iface _ _, .nilif => some false
 | .map, .nilmap, .nilmap => some true
 | .map, .nilmap, .mapr _ => some false
 | .map, .mapr _, .nilmap => some false
 | _, _, _ => none
def unD : UnOp → DV → Option DV
 | .not, .bool b => some (.bool (!b))
 | .neg, .int k n => some (.int k (k.wrap (0 - n)))
 | _, _ => none
def lenD : Bool → DV → Option DV
 | true, .str s => some (.int .i64 s.length)
 | false, .lst _ n _ _ => some (.int .i64 n)
 | false, .nils => some (.int .i64 0)
 | false, .win _ _ n _ => some (.int .i64 n)
 | _, _ => none
def partD (agg : Bool) (off sz : Nat) (cs : List DV) : Option DV := if agg then (if off + sz ≤ cs.length then some (.agg ((cs.drop off).take sz)) else none) else cs[off]?
def ldD (H : Hp) (agg : Bool) (sz : Nat) : DV → Option DV
 | .ptr b off => match H b with
   | some (.cells cs _) => partD agg off sz cs
   | _ => none
 | .cptr cs => partD agg 0 sz cs
 | _ => none
def idxD : DV → DV → Option DV
 | .str s, .int _ i => if 0 ≤ i then (s[i.toNat]?).map fun b => .int .u8 b.toNat else none
 | _, _ => none
def idxAD (agg : Bool) (len sz : Nat) : DV → DV → Option DV
 | .agg cs, .int _ i => if 0 ≤ i ∧ i < len then partD agg (i.toNat * sz) sz cs else none
 | _, _ => none
def fadrD (off : Nat) : DV → Option DV
 | .ptr b o => some (.ptr b (o + off))
 | .cptr cs => some (.cptr (cs.drop off))
 | _ => none
def iadrD (sz : Nat) : DV → DV → Option DV
 | .lst cs n sz' _, .int _ i => if 0 ≤ i ∧ i < n ∧ sz' = sz then some (.cptr (cs.drop (i.toNat * sz))) else none
 | .win b off n _, .int _ i => if 0 ≤ i ∧ i < n then some (.ptr b (off + i.toNat * sz)) else none
 | _, _ => none
def iadrAD (len sz : Nat) : DV → DV → Option DV
 | .ptr b o, .int _ i => if 0 ≤ i ∧ i < len then some (.ptr b (o + i.toNat * sz)) else none
 | .cptr cs, .int _ i => if 0 ≤ i ∧ i < len then some (.cptr (cs.drop (i.toNat * sz))) else none
 | _, _ => none
def extD (i : Nat) : DV → Option DV
 | .tup vs => vs[i]?
 | _ => none
def convD (k : IntKind) : DV → Option DV
 | .int _ n => some (.int k (k.wrap n))
 | _ => none
def strD : DV → Option DV
 | .str s => some (.str s)
 | _ => none
def nilcD : DV → Option DV
 | .ptr b o => some (.ptr b o)
 | .cptr cs => some (.cptr cs)
 | .func (.func f) a b => some (.func (.func f) a b)
 | .iface t v => some (.iface t v)
 | _ => none
def cellsD : DV → Option (List DV)
 | .agg cs => some cs
 | .tup _ => none
 | .junk => none
 | d => some [d]
def spliceL (off : Nat) (ys cs : List DV) : List DV := cs.take off ++ ys ++ cs.drop (off + ys.length)
def bldD (f : X → DV) : List (Nat × Nat × X) → List DV → Option (List DV)
 | [], cs => some cs
 | (off, sz, x) :: ps, cs => match cellsD (f x) with
   | some ys => if ys.length = sz ∧ off + sz ≤ cs.length then bldD f ps (spliceL off ys cs) else none
   | none => none
def bndD (y : Nat) : Option DV → Nat → Option Nat
 | none, d => some d
 | some (.int _ i), _ => if 0 ≤ i ∧ i ≤ y then some i.toNat else none
 | some _, _ => none
def slcSD (lo hi : Option DV) : DV → Option DV
 | .str s => (bndD s.length hi s.length).bind fun h => (bndD h lo 0).bind fun l => some (.str ((s.take h).drop l))
 | _ => none
def slcD (sz : Nat) (lo hi mx : Option DV) : DV → Option DV
 | .lst cs n sz' tag => match mx, lo, hi with
   | none, lo, hi => if sz' = sz then (bndD n hi n).bind fun h => (bndD h lo 0).bind fun l =>
     some (.lst ((cs.take (h * sz)).drop (l * sz)) (h - l) sz (if l < h then tag.map fun t => (t.1, t.2 + l) else none)) else none
   | some (.int _ 0), none, some (.int _ 0) => some .zc
   | some (.int _ 0), some (.int _ 0), some (.int _ 0) => some .zc
   | _, _, _ => none
 | .nils => match lo, hi, mx with
   | none, some (.int _ 0), some (.int _ 0) => some .nils
   | some (.int _ 0), some (.int _ 0), some (.int _ 0) => some .nils
   | none, some (.int _ 0), none => some .nils
   | some (.int _ 0), none, none => some .nils
   | none, none, none => some .nils
   | _, _, _ => none
 | .win b off n cap => match mx with
   | none => (bndD n hi n).bind fun h => (bndD h lo 0).bind fun l => if l < cap then some (.win b (off + l * sz) (h - l) (cap - l)) else none
   | some _ => none
 | _ => none
def slcAD (n sz : Nat) (lo hi : Option DV) : DV → Option DV
 | .ptr b off => (bndD n hi n).bind fun h => (bndD h lo 0).bind fun l => if l < n then some (.win b (off + l * sz) (h - l) (n - l)) else none
 | _ => none
def evP (G : Gl) (fr : Fr) (H : Hp) : OP → Option DV
 | .mv x => some (XV G fr x)
 | .pick c a b => match XV G fr c with
   | .bool true => some (XV G fr a)
   | .bool false => some (XV G fr b)
   | _ => none
 | .len b x => lenD b (XV G fr x)
 | .bin op x y => binD op (XV G fr x) (XV G fr y)
 | .eqn neg k x y => (eqD k (XV G fr x) (XV G fr y)).map fun b => .bool (bif neg then !b else b)
 | .un op x => unD op (XV G fr x)
 | .conv k x => convD k (XV G fr x)
 | .ext x i => extD i (XV G fr x)
 | .fld agg off sz x => match XV G fr x with
   | .agg cs => partD agg off sz cs
   | _ => none
 | .idx x i => idxD (XV G fr x) (XV G fr i)
 | .idxA agg len sz x i => idxAD agg len sz (XV G fr x) (XV G fr i)
 | .fadr off x => fadrD off (XV G fr x)
 | .iadr sz x i => iadrD sz (XV G fr x) (XV G fr i)
 | .iadrA len sz x i => iadrAD len sz (XV G fr x) (XV G fr i)
 | .ld agg sz x => ldD H agg sz (XV G fr x)
 | .s2s x => strD (XV G fr x)
 | .nilc x => nilcD (XV G fr x)
 | .mkif t x => some (.iface t (XV G fr x))
 | .mkfn fn first cap => some (.func fn (first.map (XV G fr)) (cap.map (XV G fr)))
 | .bld zero ps => (bldD (XV G fr) ps zero).map .agg
 | .slcS x lo hi => slcSD (lo.map (XV G fr)) (hi.map (XV G fr)) (XV G fr x)
 | .slc sz x lo hi mx => slcD sz (lo.map (XV G fr)) (hi.map (XV G fr)) (mx.map (XV G fr)) (XV G fr x)
 | .slcA n sz x lo hi => slcAD n sz (lo.map (XV G fr)) (hi.map (XV G fr)) (XV G fr x)
 | .mx x y => match XV G fr x, XV G fr y with
   | .int k a, .int _ b => some (.int k (if b > a then b else a))
   | _, _ => none
 | .mn x y => match XV G fr x, XV G fr y with
   | .int k a, .int _ b => some (.int k (if b < a then b else a))
   | _, _ => none
 | _ => none
def isAggT (P : Program) (t : TypeId) : Bool :=
 match P.underlying t with
 | some (.struct _) | some (.array _ _) => true
 | _ => false
def zeroT (P : Program) (t : TypeId) : Option (List DV × Nat) :=
 (P.info? t).bind fun i => i.zero.bind fun z => if z.cells.all (·.oneCell') && z.cells.size == i.size then some (z.cells.toList.map cV, i.size) else none
def placesT (P : Program) (fs : Array Field) : Option (List (Nat × Nat)) := fs.toList.mapM (fun f => (P.info? f.type).map fun i => (f.offset, i.size))
def cParts (pl : List (Nat × Nat)) : List (Nat × Operand) → Option (List (Nat × Nat × X))
 | [] => some []
 | (k, x) :: ps => (pl[k]?).bind fun p => (cParts pl ps).bind fun r => some ((p.1, p.2, cX x) :: r)
def cOp (P : Program) (o : Op) : Option OP :=
 match o with
 | .move x | .assign x => some (.mv (cX x))
 | .pick c a b => some (.pick (cX c) (cX a) (cX b))
 | .binOp op t x y _ =>
   match op with
   | .eql | .neq => match P.underlying t with
     | some (.int _) | some .string => some (.bin op (cX x) (cX y))
     | some .bool => some (.eqn (isNeq op) .bool (cX x) (cX y))
     | some (.pointer e) => (P.info? e).bind fun i => if i.size = 0 then none else some (.eqn (isNeq op) .ptr (cX x) (cX y))
     | some (.slice _) => some (.eqn (isNeq op) .slice (cX x) (cX y))
     | some (.func _ _ _) => some (.eqn (isNeq op) .func (cX x) (cX y))
     | some (.map _ _) => some (.eqn (isNeq op) .map (cX x) (cX y))
     | some (.interface _) => some (.eqn (isNeq op) .iface (cX x) (cX y))
     | _ => some (.oth o)
   | _ => match P.underlying t with
     | some (.int _) | some .string => some (.bin op (cX x) (cX y))
     | _ => some (.oth o)
 | .unOp op _ x => some (.un op (cX x))
 | .convert s d x => match P.underlying s, P.underlying d with
   | some (.int _), some (.int k) => some (.conv k (cX x))
   | some .string, some .string => some (.s2s (cX x))
   | some .string, some (.slice e) => match P.underlying e with
     | some (.int .u8) => some (.s2b e (cX x))
     | _ => some (.oth o)
   | some (.slice e), some .string => match P.underlying e with
     | some (.int .u8) => some (.b2s (cX x))
     | _ => some (.oth o)
   | some (.int _), some .string => some (.i2s (cX x))
   | _, _ => some (.oth o)
 | .extract x i => some (.ext (cX x) i)
 | .field t x f => match P.underlying t with
   | some (.struct fs) => match fs[f]? with
     | some f => (P.info? f.type).bind fun i => if isAggT P f.type then some (.fld true f.offset i.size (cX x)) else match P.underlying f.type with
       | some _ => some (.fld false f.offset i.size (cX x))
       | none => none
     | none => none
   | _ => none
 | .index t x i => match P.underlying t with
   | some .string => some (.idx (cX x) (cX i))
   | _ => some (.oth o)
 | .fieldAddr t x f => match P.underlying t with
   | some (.struct fs) => match fs[f]? with
     | some f => (P.info? f.type).bind fun i => if i.size = 0 then none else some (.fadr f.offset (cX x))
     | none => none
   | _ => none
 | .indexAddr t x i => match P.underlying t with
   | some (.slice e) => (P.info? e).bind fun j => if j.size = 0 then none else some (.iadr j.size (cX x) (cX i))
   | some (.array n e) => (P.info? e).bind fun j => if j.size = 0 then none else some (.iadrA n j.size (cX x) (cX i))
   | _ => none
 | .load t x => if isAggT P t then (P.info? t).bind fun i => some (.ld true i.size (cX x)) else (P.underlying t).bind fun _ => some (.ld false 1 (cX x))
 | .nilCheck x => some (.nilc (cX x))
 | .makeInterface t x => match P.underlying t with
   | some (.interface _) => none
   | some _ => some (.mkif t (cX x))
   | none => none
 | .makeFunc fn first cap => some (.mkfn fn (first.toList.map cX) (cap.toList.map cX))
 | .call c => match c.callee with
   | .builtin .len => match c.args.toList, c.argTypes.toList with
     | [x], [t] => match P.underlying t with
       | some .string => some (.len true (cX x))
       | some (.slice _) => some (.len false (cX x))
       | some (.array n _) => some (.mv (.c (.int .i64 n)))
       | _ => some (.oth o)
     | _, _ => none
   | .builtin .max => match c.args.toList with
     | [x, y] => some (.mx (cX x) (cX y))
     | _ => none
   | .builtin .min => match c.args.toList with
     | [x, y] => some (.mn (cX x) (cX y))
     | _ => none
   | .builtin .append => match c.args.toList, c.argTypes.toList with
     | [s, x], [t, u] => match P.underlying t, P.underlying u with
       | some (.slice e), some (.slice _) => (zeroT P e).bind fun z => (P.info? e).bind fun i => if 0 < z.2 ∧ 0 < i.bytes then some (.app e z.2 i.bytes (cX s) (cX x)) else none
       | some (.slice e), some .string => (zeroT P e).bind fun z => (P.info? e).bind fun i => if 0 < z.2 ∧ 0 < i.bytes then some (.app e z.2 i.bytes (cX s) (cX x)) else none
       | _, _ => some (.oth o)
     | _, _ => none
   | .builtin _ => some (.oth o)
   | .value (.func f) => some (.call f (c.args.toList.map cX))
   | .value x => some (.calv (cX x) (c.args.toList.map cX))
   | .invoke _ _ => some (.oth o)
 | .panic x => some (.pan (cX x))
 | .alloc e => (zeroT P e).bind fun z => some (.alloc z.1 e)
 | .box e x => some (.box e (cX x))
 | .store t x y => (P.info? t).bind fun i => some (.st i.size (cX x) (cX y))
 | .build t ps => match P.underlying t with
   | some (.struct fs) => (zeroT P t).bind fun z => (placesT P fs).bind fun pl => (cParts pl ps.toList).bind fun l => some (.bld z.1 l)
   | some (.array _ e) => (zeroT P t).bind fun z => (P.info? e).bind fun i => some (.bld z.1 (ps.toList.map fun p => (p.1 * i.size, i.size, cX p.2)))
   | _ => none
 | .buildSlice t len ps => match P.underlying t with
   | some (.slice e) => (zeroT P e).bind fun z => if len * z.2 ≤ 16777216 ∧ 0 < z.2 then
     some (.bsl e len z.2 (List.flatten (List.replicate len z.1)) (ps.toList.map fun p => (p.1 * z.2, z.2, cX p.2))) else none
   | _ => none
 | .slice t x lo hi mx => match P.underlying t, mx with
   | some .string, none => some (.slcS (cX x) (lo.map cX) (hi.map cX))
   | some (.slice e), _ => (P.info? e).bind fun i => some (.slc i.size (cX x) (lo.map cX) (hi.map cX) (mx.map cX))
   | some (.array n e), none => (P.info? e).bind fun i => some (.slcA n i.size (cX x) (lo.map cX) (hi.map cX))
   | _, _ => some (.oth o)
 | o => some (.oth o)
def opX : OP → List X
 | .mv x | .len _ x | .un _ x | .conv _ x | .ext x _ | .fld _ _ _ x | .fadr _ x | .ld _ _ x | .nilc x | .mkif _ x | .pan x | .s2s x | .s2b _ x | .b2s x | .i2s x | .box _ x => [x]
 | .pick c a b => [c, a, b]
 | .bin _ x y | .eqn _ _ x y | .idx x y | .idxA _ _ _ x y | .iadr _ x y | .iadrA _ _ x y | .mx x y | .mn x y | .st _ x y | .app _ _ _ x y => [x, y]
 | .mkfn _ f c => f ++ c
 | .slc _ x l h m => [x] ++ l.toList ++ h.toList ++ m.toList
 | .slcS x l h | .slcA _ _ x l h => [x] ++ l.toList ++ h.toList
 | .bld _ ps => ps.map (·.2.2)
 | .bsl _ _ _ _ ps => ps.map (·.2.2)
 | .call _ xs => xs
 | .calv x xs => x :: xs
 | .alloc _ _ => []
 | .oth o => o.operands.toList.map cX
section
variable {P : Program} {G : Gl} {N : Nat} {w : World} {H : Hp} {Z : Zn}
theorem VR.bool_inv {v : Value} {b : Bool} (h : VR w H Z v (.bool b)) : v = .bool b := by cases h; rfl
theorem VR.int_inv {v : Value} {k : IntKind} {n : Int} (h : VR w H Z v (.int k n)) : v = .int k n := by cases h; rfl
theorem VR.str_inv {v : Value} {l : List UInt8} (h : VR w H Z v (.str l)) : ∃ s, v = .string s ∧ s.data.toList = l := by cases h; exact ⟨_, rfl, ‹_›⟩
theorem VR.ptr_inv {v : Value} {b o : Nat} (h : VR w H Z v (.ptr b o)) : v = .pointer (some ⟨b, o, none⟩) := by cases h; rfl
theorem VR.agg_inv {v : Value} {cs : List DV} (h : VR w H Z v (.agg cs)) : ∃ vs : Array Value, v = .agg vs ∧ vs.size = cs.length ∧ (∀ (j : Nat) (v : Value), vs[j]? = some v → v.oneCell' = true) ∧
  ∀ (j : Nat) (v : Value) (d : DV), vs[j]? = some v → cs[j]? = some d → VR w H Z v d := by
 cases h; exact ⟨_, rfl, ‹_›, ‹_›, ‹_›⟩
theorem VR.tup_inv {v : Value} {cs : List DV} (h : VR w H Z v (.tup cs)) : ∃ vs : Array Value, v = .tuple vs ∧ vs.size = cs.length ∧ ∀ (j : Nat) (v : Value) (d : DV), vs[j]? = some v → cs[j]? = some d → VR w H Z v d := by
 cases h; exact ⟨_, rfl, ‹_›, ‹_›⟩
structure CP (w : World) (H : Hp) (Z : Zn) (a : Addr) (cs : List DV) (vs : Nat → Value) : Prop where
 spot : a.spot = none
 cell : ∀ j, j < cs.length → w.cell? ⟨a.block, a.off + j, none⟩ = some (vs j) ∧ Safe H Z a.block (a.off + j)
 one : ∀ j, j < cs.length → (vs j).oneCell' = true
 val : ∀ (j : Nat) (d : DV), cs[j]? = some d → VR w H Z (vs j) d
theorem VR.cptr_inv {v : Value} {cs : List DV} (h : VR w H Z v (.cptr cs)) : ∃ a vs, v = .pointer (some a) ∧ CP w H Z a cs vs := by
 cases h; exact ⟨_, _, rfl, ‹_›, ‹_›, ‹_›, ‹_›⟩
theorem CP.vr {a : Addr} {cs : List DV} {vs : Nat → Value} (h : CP w H Z a cs vs) : VR w H Z (.pointer (some a)) (.cptr cs) := .cptr a cs vs h.spot h.cell h.one h.val
theorem add_off {a : Addr} (h : a.spot = none) (n : Nat) : a.add n = ⟨a.block, a.off + n, none⟩ := by
 unfold Addr.add
 split
 · subst n; cases a; simp_all
 · cases a; simp_all
theorem CP.drop {a : Addr} {cs : List DV} {vs : Nat → Value} (h : CP w H Z a cs vs) (n : Nat) : CP w H Z (a.add n) (cs.drop n) (fun j => vs (n + j)) := by
 rw [add_off h.spot]
 refine ⟨rfl, fun j hj => ?_, fun j hj => h.one _ (by simp only [List.length_drop] at hj; omega), fun j d hd => ?_⟩
 · simp only [List.length_drop] at hj
   have := h.cell (n + j) (by omega)
   simpa [Nat.add_assoc] using this
 · rw [List.getElem?_drop] at hd
   exact h.val _ _ hd
theorem VR.lst_inv {v : Value} {cs : List DV} {n sz : Nat} {tag : Option (Nat × Nat)} (h : VR w H Z v (.lst cs n sz tag)) :
  ∃ A c vs, v = .slice A n c ∧ cs.length = n * sz ∧ n ≤ c ∧ (∀ (j : Nat) (d : DV), cs[j]? = some d → VR w H Z (vs j) d) ∧ TagOK w H A n c sz tag ∧
   (cs ≠ [] → ∃ a, A = some a ∧ CP w H Z a cs vs) := by
 obtain ⟨A, c, vs, rfl, h1, h2, h3, ho, h4, h5⟩ : ∃ (A : Option Addr) (c : Nat) (vs : Nat → Value), v = .slice A n c ∧ cs.length = n * sz ∧ n ≤ c ∧
   (∀ j, j < cs.length → ∃ a, A = some a ∧ a.spot = none ∧ w.cell? ⟨a.block, a.off + j, none⟩ = some (vs j) ∧ Safe H Z a.block (a.off + j)) ∧ (∀ j, j < cs.length → (vs j).oneCell' = true) ∧
   (∀ (j : Nat) (d : DV), cs[j]? = some d → VR w H Z (vs j) d) ∧ TagOK w H A n c sz tag := by
  cases h with
  | lst A n c sz cs tag vs h1 h2 h3 ho h4 h5 => exact ⟨A, c, vs, rfl, h1, h2, h3, ho, h4, h5⟩
 refine ⟨A, c, vs, rfl, h1, h2, h4, h5, fun hne => ?_⟩
 have h0 : 0 < cs.length := List.length_pos_iff.2 hne
 obtain ⟨a, e, es, _⟩ := h3 0 h0
 refine ⟨a, e, es, fun j hj => ?_, ho, h4⟩
 obtain ⟨a', e', _, k1, k2⟩ := h3 j hj
 rw [e] at e'
 cases e'
 exact ⟨k1, k2⟩
theorem run_isAgg {t : TypeId} {d : TypeDesc} (h : P.underlying t = some d) : (isAgg t).run P w = .ok (isAggT P t) w := by
 unfold isAgg isAggT
 simp only [Sem.run_bind, run_underlying h, Result.andThen_ok, h]
 cases d <;> rfl
theorem run_sizeOf {t : TypeId} {i : TypeInfo} (h : P.info? t = some i) : (sizeOf t).run P w = .ok i.size w := by
 simp [sizeOf, typeInfo, h]
theorem info_of_underlying {t : TypeId} {d : TypeDesc} (h : P.underlying t = some d) : ∃ i, P.info? t = some i := by
 unfold Program.underlying at h
 cases hi : P.info? t with
 | none => rw [hi] at h; simp at h
 | some i => exact ⟨i, rfl⟩
theorem underlying_agg {t : TypeId} (h : isAggT P t = true) : ∃ d, P.underlying t = some d := by
 unfold isAggT at h
 cases hu : P.underlying t with
 | none => rw [hu] at h; simp at h
 | some d => exact ⟨d, rfl⟩
theorem run_part {t : TypeId} {i : TypeInfo} {d0 : TypeDesc} (hu : P.underlying t = some d0) (hi : P.info? t = some i) {vs : Array Value} {cs : List DV} (hs : vs.size = cs.length) (ho : ∀ (j : Nat) (v : Value), vs[j]? = some v → v.oneCell' = true)
  (hv : ∀ (j : Nat) (v : Value) (d : DV), vs[j]? = some v → cs[j]? = some d → VR w H Z v d) {off : Nat} {d : DV} (h : partD (isAggT P t) off i.size cs = some d) :
  ∃ v, (part t vs off).run P w = .ok v w ∧ VR w H Z v d := by
 unfold partD at h
 cases hg : isAggT P t with
 | true =>
   rw [hg] at h
   simp only [if_true] at h
   split at h
   · rename_i hle
     cases h
     refine ⟨.agg (vs.extract off (off + i.size)), by simp [part, run_isAgg hu, hg, run_sizeOf hi], .agg _ _ (by simp; omega) (fun j v h1 => by
      rw [Array.getElem?_extract] at h1
      split at h1
      · exact ho _ _ h1
      · cases h1) fun j v d h1 h2 => ?_⟩
     rw [List.getElem?_take] at h2
     split at h2
     · rw [List.getElem?_drop] at h2
       rw [Array.getElem?_extract] at h1
       split at h1
       · exact hv _ _ _ h1 h2
       · cases h1
     · cases h2
   · cases h
 | false =>
   rw [hg] at h
   simp only [Bool.false_eq_true, if_false] at h
   have hlt : off < cs.length := (List.getElem?_eq_some_iff.1 h).1
   have hv0 : vs[off]? = some (vs[off]'(by omega)) := Array.getElem?_eq_getElem _
   refine ⟨_, ?_, hv _ _ _ hv0 h⟩
   simp [part, run_isAgg hu, hg, hv0]
theorem List.getElem?_range'_lt' {n j q : Nat} (h : (List.range' 0 n)[j]? = some q) : q < n := by
 have := List.mem_of_getElem? h
 simpa using this
theorem loadCells_from {a : Addr} (hs : a.spot = none) {vs : Nat → Value} : ∀ (n i : Nat) (acc : Array Value), (∀ j, i ≤ j → j < i + n → w.cell? ⟨a.block, a.off + j, none⟩ = some (vs j)) →
  (loadCellsFrom a i n acc).run P w = .ok (acc ++ ((List.range' i n).map vs).toArray) w
 | 0, i, acc, _ => by simp [loadCellsFrom]
 | n + 1, i, acc, h => by
   have h0 := h i (Nat.le_refl _) (by omega)
   have ih := loadCells_from hs n (i + 1) (acc.push (vs i)) (fun j h1 h2 => h j (by omega) (by omega))
   simp only [loadCellsFrom, Sem.run_bind, load, add_off hs, Sem.run, h0, Result.andThen_ok, ih]
   congr 1
   rw [List.range'_succ]
   simp
theorem run_loadVar {t : TypeId} {i : TypeInfo} {d0 : TypeDesc} (hu : P.underlying t = some d0) (hi : P.info? t = some i) {a : Addr} (hs : a.spot = none) {cs : List DV} {vs : Nat → Value} {off : Nat}
  (hc : ∀ j, off + j < cs.length → w.cell? ⟨a.block, a.off + j, none⟩ = some (vs (off + j))) (ho : ∀ j, j < cs.length → (vs j).oneCell' = true) (hv : ∀ (j : Nat) (d : DV), cs[j]? = some d → VR w H Z (vs j) d)
  {d : DV} (h : partD (isAggT P t) off (if isAggT P t then i.size else 1) cs = some d) : ∃ v, (loadVar t a).run P w = .ok v w ∧ VR w H Z v d := by
 unfold partD at h
 cases hg : isAggT P t with
 | true =>
   rw [hg] at h
   simp only [if_true] at h
   split at h
   · rename_i hle
     cases h
     have hl := loadCells_from (P := P) (w := w) hs (vs := fun j => vs (off + j)) i.size 0 #[] (fun j _ h2 => hc j (by omega))
     refine ⟨.agg ((List.range' 0 i.size).map fun j => vs (off + j)).toArray, by simp [loadVar, run_isAgg hu, hg, run_sizeOf hi, loadCells, hl], .agg _ _ (by simp; omega) (fun j v h1 => by
      rw [List.getElem?_toArray, List.getElem?_map] at h1
      cases e : (List.range' 0 i.size)[j]? with
      | none => rw [e] at h1; cases h1
      | some q =>
        rw [e] at h1
        have hq := List.getElem?_range'_lt' e
        simp only [Option.map_some, Option.some.injEq] at h1
        subst h1
        exact ho _ (by omega)) fun j v d h1 h2 => ?_⟩
     rw [List.getElem?_take] at h2
     split at h2
     · rename_i hj
       rw [List.getElem?_drop] at h2
       simp [hj] at h1
       subst h1
       exact hv _ _ h2
     · cases h2
   · cases h
 | false =>
   rw [hg] at h
   simp only [Bool.false_eq_true, if_false] at h
   have hlt : off < cs.length := (List.getElem?_eq_some_iff.1 h).1
   have h0 := hc 0 (by omega)
   refine ⟨vs off, ?_, hv _ _ h⟩
   simp only [loadVar, Sem.run_bind, run_isAgg hu, hg, Result.andThen_ok, Bool.false_eq_true, if_false, load, Sem.run]
   have ea : (⟨a.block, a.off + 0, none⟩ : Addr) = a := by cases a; simp_all
   rw [ea] at h0
   simp [h0]
theorem eqGuard_scalar (op : BinOp) (t : TypeId) (x y : Operand) {a b : Value} (h : ∀ cs, a ≠ .agg cs) (h2 : a ≠ .nilIface) : (eqGuard op t x y a b).run P w = .ok () w := by
 unfold eqGuard
 cases op <;> simp <;> (split <;> simp_all)
theorem toList_size (s : ByteArray) : s.data.toList.length = s.size := by cases s; rfl
theorem binI_sound {op : BinOp} {t : TypeId} {k : IntKind} {a b : Int} {d : DV} (ho : op ≠ .shl ∧ op ≠ .shr) (h : binI op k a b = some d) :
  ∃ v, (binOp op t (.int k a) (.int k b)).run P w = .ok v w ∧ VR w H Z v d := by
 cases op
 case shl => exact absurd rfl ho.1
 case shr => exact absurd rfl ho.2
 case quo => simp only [binI] at h; split at h <;> cases h; exact ⟨_, by simp [binOp, Op.intDiv, *], .int _ _⟩
 case rem => simp only [binI] at h; split at h <;> cases h; exact ⟨_, by simp [binOp, Op.intDiv, *], .int _ _⟩
 all_goals first | (cases h; done) | skip
 all_goals simp only [binI, Option.some.injEq] at h; subst h
 all_goals first | exact ⟨_, by simp only [binOp, ne_eq, not_true_eq_false, if_false]; rfl, .int _ _⟩ | exact ⟨_, by simp only [binOp, ne_eq, not_true_eq_false, if_false]; rfl, .bool _⟩
theorem binS_sound {op : BinOp} {t : TypeId} {a b : ByteArray} {d : DV} (h : binS op a.data.toList b.data.toList = some d) :
  ∃ v, (binOp op t (.string a) (.string b)).run P w = .ok v w ∧ VR w H Z v d := by
 have hb : binOp op t (.string a) (.string b) = Op.stringOp op a b := by cases op <;> rfl
 rw [hb]
 cases op
 case add =>
  simp only [binS] at h
  split at h
  · rename_i hl
    cases h
    refine ⟨.string (a ++ b), ?_, .str _ _ (by rw [ByteArray.data_append, Array.toList_append])⟩
    simp only [Op.stringOp]
    rw [if_neg (by simp only [toList_size] at hl; show ¬ ((_ : Int) > 9223372036854775807); omega)]
    rfl
  · cases h
 all_goals first | (cases h; done) | skip
 all_goals simp only [binS, Option.some.injEq] at h; subst h
 all_goals exact ⟨_, by simp only [Op.stringOp, ByteArray.toList_eq]; rfl, .bool _⟩
theorem binD_sound {op : BinOp} {t : TypeId} {x y : Value} {dx dy d : DV} (h : binD op dx dy = some d) (hx : VR w H Z x dx) (hy : VR w H Z y dy) :
  (∃ v, (binOp op t x y).run P w = .ok v w ∧ VR w H Z v d) ∧ (∀ cs, x ≠ .agg cs) ∧ x ≠ .nilIface := by
 unfold binD at h
 split at h
 · rename_i k a k' b
   rw [hx.int_inv, hy.int_inv]
   refine ⟨?_, fun _ h => (by cases h), fun h => (by cases h)⟩
   split at h
   · simp only [shI] at h
     split at h
     · cases h
     · rename_i hb; cases h; exact ⟨_, by simp [binOp, Op.shift, hb], .int _ _⟩
   · simp only [shI] at h
     split at h
     · cases h
     · rename_i hb; cases h; exact ⟨_, by simp [binOp, Op.shift, hb], .int _ _⟩
   · rename_i h1 h2
     split at h
     · rename_i hk; subst hk; exact binI_sound ⟨h1, h2⟩ h
     · cases h
 · obtain ⟨s, rfl, rfl⟩ := hx.str_inv
   obtain ⟨s', rfl, rfl⟩ := hy.str_inv
   exact ⟨binS_sound h, fun _ h => (by cases h), fun h => (by cases h)⟩
 · cases h
def EKof (P : Program) (t : TypeId) : EK → Prop
 | .bool => P.underlying t = some .bool
 | .ptr => ∃ e i, P.underlying t = some (.pointer e) ∧ P.info? e = some i ∧ i.size ≠ 0
 | .slice => ∃ e, P.underlying t = some (.slice e)
 | .func => ∃ a b c, P.underlying t = some (.func a b c)
 | .map => ∃ a b, P.underlying t = some (.map a b)
 | .iface => ∃ m, P.underlying t = some (.interface m)
theorem VR.lstcons_inv {v : Value} {c : DV} {cs : List DV} {n sz : Nat} {tag : Option (Nat × Nat)} (h : VR w H Z v (.lst (c :: cs) n sz tag)) : ∃ a n' c', v = .slice (some a) n' c' := by
 obtain ⟨A, c', vs, rfl, _, _, _, _, hA⟩ := h.lst_inv
 obtain ⟨a, rfl, _⟩ := hA (by simp)
 exact ⟨a, _, _, rfl⟩
theorem eqIn_sound {k : EK} {t : TypeId} {x y : Value} {dx dy : DV} {b : Bool} (n : Nat) (hk : EKof P t k) (h : eqD k dx dy = some b) (hx : VR w H Z x dx) (hy : VR w H Z y dy) :
  (Op.equalIn (n + 1) t x y).run P w = .ok b w := by
 unfold eqD at h
 split at h
 case h_1 =>
  cases hx; cases hy; cases h
  have hu : P.underlying t = some .bool := hk
  simp [Op.equalIn, run_underlying hu]
 case h_7 =>
  cases hx; cases hy
  obtain ⟨e, i, hu, hi, hs⟩ := hk
  split at h
  · rename_i hb
    subst hb
    cases h
    simp only [Op.equalIn, Sem.run_bind, run_underlying hu, Result.andThen_ok, run_sizeOf hi, ne_eq, hs, not_false_eq_true, if_true, sameAddr, BEq.rfl, Sem.run_pure]
    congr 1
    rename_i b' o o'
    by_cases e' : o = o'
    · subst e'; simp
    · have h2 : (⟨b', o, none⟩ : Addr) ≠ ⟨b', o', none⟩ := fun h => e' (by cases h; rfl)
      rw [beq_eq_false_iff_ne.2 h2, beq_eq_false_iff_ne.2 e']
  · cases h
 case h_9 =>
  cases hx
  obtain ⟨a, n', c', rfl⟩ := hy.lstcons_inv
  cases h
  obtain ⟨e, hu⟩ := hk
  simp [Op.equalIn, run_underlying hu]
 case h_10 =>
  cases hy
  obtain ⟨a, n', c', rfl⟩ := hx.lstcons_inv
  cases h
  obtain ⟨e, hu⟩ := hk
  simp [Op.equalIn, run_underlying hu]
 all_goals first | (cases h; done) | skip
 all_goals cases hx
 all_goals cases hy
 all_goals cases h
 case h_2.nilp.nilp.refl | h_3.nilp.ptr.refl | h_4.ptr.nilp.refl | h_5.nilp.cptr.refl | h_6.cptr.nilp.refl =>
  obtain ⟨e, i, hu, hi, hs⟩ := hk
  simp [Op.equalIn, run_underlying hu]
 case h_8.nils.nils.refl | h_11.nils.win.refl | h_12.win.nils.refl =>
  obtain ⟨e, hu⟩ := hk
  simp [Op.equalIn, run_underlying hu]
 case h_13.nilfn.nilfn.refl | h_14.nilfn.func.refl | h_15.func.nilfn.refl =>
  obtain ⟨_, _, _, hu⟩ := hk
  simp [Op.equalIn, run_underlying hu]
 case h_16.nilif.iface.refl | h_17.iface.nilif.refl =>
  obtain ⟨_, hu⟩ := hk
  simp [Op.equalIn, run_underlying hu]
 all_goals
  obtain ⟨_, _, hu⟩ := hk
  simp [Op.equalIn, run_underlying hu]
theorem eqD_plain {k : EK} {x y : Value} {dx dy : DV} {b : Bool} (h : eqD k dx dy = some b) (hx : VR w H Z x dx) (hy : VR w H Z y dy) :
  (∀ cs, x ≠ .agg cs) ∧ (x = .nilIface → y ≠ .nilIface) ∧ (∀ k n, x ≠ .int k n) ∧ (∀ s, x ≠ .string s) := by
 unfold eqD at h
 split at h <;> first | (cases h; done) | skip
 all_goals cases hx
 all_goals cases hy
 all_goals exact ⟨fun _ h => (by cases h), (by first | (intro h; cases h; done) | (intro _ h; cases h)), fun _ _ h => (by cases h), fun _ h => (by cases h)⟩
theorem eqD_sound {k : EK} {t : TypeId} {x y : Value} {dx dy : DV} {b : Bool} (hk : EKof P t k) (h : eqD k dx dy = some b) (hx : VR w H Z x dx) (hy : VR w H Z y dy)
  (op : BinOp) (hop : op = .eql ∨ op = .neq) (X Y : Operand) :
  (do eqGuard op t X Y x y; binOp op t x y : Sem Value).run P w = .ok (.bool (bif isNeq op then !b else b)) w := by
 have he : (Op.equal t x y).run P w = .ok b w := eqIn_sound 9999 hk h hx hy
 have hg : (eqGuard op t X Y x y).run P w = .ok () w := by
  obtain ⟨h1, h2, _, _⟩ := eqD_plain h hx hy
  unfold eqGuard
  rcases hop with rfl | rfl <;> simp only [Bool.not_true, Bool.false_eq_true, if_false] <;> (split <;> first | rfl | (exact absurd rfl (h2 rfl)) | (exact absurd rfl (h1 _)))
 simp only [Sem.run_bind, hg, Result.andThen_ok]
 unfold eqD at h
 split at h <;> first | (cases h; done) | skip
 all_goals cases hx
 all_goals cases hy
 all_goals (rcases hop with rfl | rfl <;> simp only [binOp, Sem.run_bind, he, Result.andThen_ok] <;> rfl)
end
section
variable {P : Program} {G : Gl} {N : Nat} {w : World} {H : Hp} {Z : Zn}
structure RL (w : World) (H : Hp) (Z : Zn) (arr : Array Value) (cs : List DV) : Prop where
 size : arr.size = cs.length
 one : ∀ (j : Nat) (v : Value), arr[j]? = some v → v.oneCell' = true
 val : ∀ (j : Nat) (v : Value) (d : DV), arr[j]? = some v → cs[j]? = some d → VR w H Z v d
theorem cellsD_sound {v : Value} {d : DV} {ys : List DV} (h : VR w H Z v d) (hc : cellsD d = some ys) : RL w H Z v.cells ys := by
 have one : ∀ (v : Value) (d : DV), v.cells = #[v] → v.oneCell' = true → VR w H Z v d → RL w H Z v.cells [d] := by
  intro v d e ho hv
  rw [e]
  refine ⟨rfl, fun j u hj => ?_, fun j u d' hj hd => ?_⟩
  · rcases j with _ | j
    · simp at hj; subst hj; exact ho
    · simp at hj
  · rcases j with _ | j
    · simp at hj hd; subst hj; subst hd; exact hv
    · simp at hj
 cases h with
 | agg vs cs e ho hv => cases hc; exact ⟨e, ho, hv⟩
 | junk v => cases hc
 | tup => cases hc
 | bool b => cases hc; exact one _ _ rfl rfl (.bool b)
 | int k n => cases hc; exact one _ _ rfl rfl (.int k n)
 | str s l e => cases hc; exact one _ _ rfl rfl (.str s l e)
 | ptr b off => cases hc; exact one _ _ rfl rfl (.ptr b off)
 | nilp => cases hc; exact one _ _ rfl rfl .nilp
 | cptr a cs vs h1 h2 h3 h4 => cases hc; exact one _ _ rfl rfl (.cptr a cs vs h1 h2 h3 h4)
 | lst A n c sz cs tag vs h1 h2 h3 h4 h5 h6 => cases hc; exact one _ _ rfl rfl (.lst A n c sz cs tag vs h1 h2 h3 h4 h5 h6)
 | nils => cases hc; exact one _ _ rfl rfl .nils
 | zc A => cases hc; exact one _ _ rfl rfl (.zc A)
 | win b off n cap h => cases hc; exact one _ _ rfl rfl (.win b off n cap h)
 | func fn first cap df dc e1 e2 h1 h2 => cases hc; exact one _ _ rfl rfl (.func fn first cap df dc e1 e2 h1 h2)
 | nilfn => cases hc; exact one _ _ rfl rfl .nilfn
 | iface t v d h => cases hc; exact one _ _ rfl rfl (.iface t v d h)
 | nilif => cases hc; exact one _ _ rfl rfl .nilif
 | mapr b => cases hc; exact one _ _ rfl rfl (.mapr b)
 | nilmap => cases hc; exact one _ _ rfl rfl .nilmap
theorem splice_get {α : Type} {off : Nat} {ys cs : List α} (h : off + ys.length ≤ cs.length) (k : Nat) :
  (cs.take off ++ ys ++ cs.drop (off + ys.length))[k]? = if off ≤ k ∧ k < off + ys.length then ys[k - off]? else cs[k]? := by
 rw [List.append_assoc, List.getElem?_append, List.length_take, Nat.min_eq_left (by omega)]
 by_cases h1 : k < off
 · rw [if_pos h1, if_neg (by omega), List.getElem?_take, if_pos h1]
 · rw [if_neg h1, List.getElem?_append]
   by_cases h2 : k - off < ys.length
   · rw [if_pos h2, if_pos ⟨by omega, by omega⟩]
   · rw [if_neg h2, if_neg (by omega), List.getElem?_drop]
     congr 1; omega
theorem splice_length {α : Type} {off : Nat} {ys cs : List α} (h : off + ys.length ≤ cs.length) : (cs.take off ++ ys ++ cs.drop (off + ys.length)).length = cs.length := by
 simp; omega
theorem foldl_put (off : Nat) : ∀ (l : List Value) (i : Nat) (cells : Array Value) (k : Nat),
  ((l.zipIdx i).foldl (fun cs (p : Value × Nat) => cs.setIfInBounds (off + p.2) p.1) cells)[k]? = if off + i ≤ k ∧ k < off + i + l.length ∧ k < cells.size then l[k - (off + i)]? else cells[k]?
 | [], i, cells, k => by simp; intro h1 h2; omega
 | v :: l, i, cells, k => by
   rw [List.zipIdx_cons, List.foldl_cons, foldl_put off l (i + 1)]
   simp only [Array.size_setIfInBounds, List.length_cons, Array.getElem?_setIfInBounds]
   by_cases h1 : k < cells.size
   · by_cases h2 : k = off + i
     · subst h2
       rw [if_neg (by omega), if_pos rfl, if_pos h1, if_pos ⟨by omega, by omega, h1⟩]
       simp
     · by_cases h3 : off + i ≤ k ∧ k < off + i + (l.length + 1) ∧ k < cells.size
       · rw [if_pos ⟨by omega, by omega, h1⟩, if_pos h3]
         have : k - (off + i) = (k - (off + (i + 1))) + 1 := by omega
         rw [this, List.getElem?_cons_succ]
       · rw [if_neg (by omega), if_neg (fun e => h2 e.symm), if_neg h3]
   · have hn : cells[k]? = none := Array.getElem?_eq_none (by omega)
     have e1 : ¬ (off + (i + 1) ≤ k ∧ k < off + (i + 1) + l.length ∧ k < cells.size) := fun h => h1 h.2.2
     have e2 : ¬ (off + i ≤ k ∧ k < off + i + (l.length + 1) ∧ k < cells.size) := fun h => h1 h.2.2
     rw [if_neg e1, if_neg e2, hn]
     split
     · rw [if_neg (by omega)]
     · rfl
theorem foldl_put_size (off : Nat) : ∀ (l : List Value) (i : Nat) (cells : Array Value), ((l.zipIdx i).foldl (fun cs (p : Value × Nat) => cs.setIfInBounds (off + p.2) p.1) cells).size = cells.size
 | [], i, cells => rfl
 | v :: l, i, cells => by rw [List.zipIdx_cons, List.foldl_cons, foldl_put_size off l (i + 1)]; simp
theorem RL.splice {arr vs : Array Value} {cs ys : List DV} (h : RL w H Z arr cs) (hy : RL w H Z vs ys) {off : Nat} (hl : off + ys.length ≤ cs.length) :
  RL w H Z (vs.zipIdx.foldl (fun cs (p : Value × Nat) => cs.setIfInBounds (off + p.2) p.1) arr) (spliceL off ys cs) := by
 have e : vs.zipIdx.foldl (fun cs (p : Value × Nat) => cs.setIfInBounds (off + p.2) p.1) arr = (vs.toList.zipIdx 0).foldl (fun cs (p : Value × Nat) => cs.setIfInBounds (off + p.2) p.1) arr := by
  rw [← Array.foldl_toList, Array.toList_zipIdx]
 rw [e]
 have hs := h.size
 have hys := hy.size
 have get : ∀ k, ((vs.toList.zipIdx 0).foldl (fun cs (p : Value × Nat) => cs.setIfInBounds (off + p.2) p.1) arr)[k]? = if off ≤ k ∧ k < off + ys.length then vs[k - off]? else arr[k]? := by
  intro k
  rw [foldl_put]
  simp only [Nat.add_zero, Array.length_toList, Array.getElem?_toList]
  by_cases hk : off ≤ k ∧ k < off + ys.length
  · rw [if_pos hk, if_pos ⟨by omega, by omega, by omega⟩]
  · rw [if_neg hk, if_neg (by omega)]
 refine ⟨by rw [foldl_put_size, hs]; exact (splice_length hl).symm, fun j v hj => ?_, fun j v d hj hd => ?_⟩
 · rw [get] at hj
   split at hj
   · exact hy.one _ _ hj
   · exact h.one _ _ hj
 · rw [get] at hj
   unfold spliceL at hd
   rw [splice_get hl] at hd
   split at hj
   · rename_i hc
     rw [if_pos hc] at hd
     exact hy.val _ _ _ hj hd
   · rename_i hc
     rw [if_neg hc] at hd
     exact h.val _ _ _ hj hd
theorem fill_sound {place : Nat → Option (Nat × Nat)} {G : Gl} {fr : Fr} {ρ : Operand → Value} : ∀ (ps : List (Nat × Operand)) (qs : List (Nat × Nat × X)) (arr : Array Value) (cs ds : List DV),
  ps.length = qs.length → (∀ (j : Nat) p q, ps[j]? = some p → qs[j]? = some q → place p.1 = some (q.1, q.2.1) ∧ VR w H Z (ρ p.2) (XV G fr q.2.2)) → RL w H Z arr cs → bldD (XV G fr) qs cs = some ds →
  ∃ arr', Instr.fill place arr (ps.map fun p => (p.1, ρ p.2)) = some arr' ∧ RL w H Z arr' ds
 | [], [], arr, cs, ds, _, _, hr, hb => by cases hb; exact ⟨arr, rfl, hr⟩
 | p :: ps, [], arr, cs, ds, hl, _, _, _ => by simp at hl
 | [], q :: qs, arr, cs, ds, hl, _, _, _ => by simp at hl
 | p :: ps, q :: qs, arr, cs, ds, hl, hp, hr, hb => by
   obtain ⟨off, sz, x⟩ := q
   obtain ⟨h1, h2⟩ := hp 0 p (off, sz, x) rfl rfl
   simp only at h1 h2
   simp only [bldD] at hb
   cases hc : cellsD (XV G fr x) with
   | none => rw [hc] at hb; cases hb
   | some ys =>
     rw [hc] at hb
     simp only at hb
     split at hb
     · rename_i hs
       have hy := cellsD_sound h2 hc
       have hr' := hr.splice hy (off := off) (by omega)
       obtain ⟨arr', k1, k2⟩ := fill_sound ps qs _ _ ds (by simpa using hl) (fun j p q e1 e2 => hp (j + 1) p q e1 e2) hr' hb
       refine ⟨arr', ?_, k2⟩
       have hys := hy.size
       have hars := hr.size
       simp only [List.map_cons, Instr.fill, h1]
       rw [if_neg (by simp; omega)]
       exact k1
     · cases hb
theorem run_bound {k : IntKind} {i : Int} {y : Nat} {c : BoundsCode} (h : 0 ≤ i ∧ i ≤ y) : (Instr.sliceBound (.int k i) y c).run P w = .ok i.toNat w := by
 simp only [Instr.sliceBound, asIntOf, Sem.run_bind, Sem.run_pure, Result.andThen_ok, h, and_self, if_true]
theorem bndD_sound {y d m : Nat} {x : Option Value} {dx : Option DV} (h : bndD y dx d = some m) (hn : x = none ↔ dx = none) (hx : ∀ v e, x = some v → dx = some e → VR w H Z v e) (c : BoundsCode) :
  (match x with | some v => Instr.sliceBound v y c | none => pure d).run P w = .ok m w := by
 unfold bndD at h
 split at h
 · cases h
   cases x with
   | none => rfl
   | some v => exact absurd (hn.2 rfl) (by simp)
 · rename_i k i
   cases x with
   | none => exact absurd (hn.1 rfl) (by simp)
   | some v =>
     have := (hx v _ rfl rfl).int_inv
     subst this
     split at h
     · cases h; exact run_bound ‹_›
     · cases h
 · cases h
theorem sliceBounds_run {isS : Bool} {len cap h l : Nat} {lo hi : Option Value} {dlo dhi : Option DV} (hh : bndD len dhi len = some h) (hl : bndD h dlo 0 = some l) (hcap : len ≤ cap)
  (nlo : lo = none ↔ dlo = none) (vlo : ∀ v e, lo = some v → dlo = some e → VR w H Z v e) (nhi : hi = none ↔ dhi = none) (vhi : ∀ v e, hi = some v → dhi = some e → VR w H Z v e) :
  (Instr.sliceBounds isS len cap lo hi none).run P w = .ok (l, h, cap) w := by
 have h1 : ∀ c, (match hi with | some v => Instr.sliceBound v cap c | none => pure len : Sem Nat).run P w = .ok h w := by
  intro c
  refine bndD_sound (dx := dhi) ?_ nhi vhi c
  unfold bndD at hh ⊢
  split at hh
  · exact hh
  · split at hh
    · rw [if_pos (by omega)]; exact hh
    · cases hh
  · cases hh
 have h2 : ∀ c, (match lo with | some v => Instr.sliceBound v h c | none => pure 0 : Sem Nat).run P w = .ok l w := fun c => bndD_sound hl nlo vlo c
 unfold Instr.sliceBounds
 cases hi with
 | none =>
   cases h1 .index
   cases lo with
   | none => cases h2 .index; rfl
   | some v =>
     have h2' := h2 .sliceB
     simp only at h2'
     simp [h2']
 | some u =>
   have h1' := h1 (if isS then .sliceAcap else .sliceAlen)
   simp only at h1'
   cases lo with
   | none => cases h2 .index; simp [h1']
   | some v =>
     have h2' := h2 .sliceB
     simp only at h2'
     simp [h1', h2']
theorem bndD_le {y d m : Nat} {dx : Option DV} (h : bndD y dx d = some m) (hd : d ≤ y) : m ≤ y := by
 unfold bndD at h
 split at h
 · cases h; exact hd
 · split at h
   · cases h; omega
   · cases h
 · cases h
theorem bounds_zero {isS : Bool} {len cap : Nat} {lo : Option Value} {k k' : IntKind} (hlo : lo = none ∨ ∃ k, lo = some (.int k 0)) :
  (Instr.sliceBounds isS len cap lo (some (.int k 0)) (some (.int k' 0))).run P w = .ok (0, 0, 0) w := by
 rcases hlo with rfl | ⟨k2, rfl⟩
 · simp [Instr.sliceBounds, run_bound]
 · simp [Instr.sliceBounds, run_bound]
theorem slcSD_sound {t : TypeId} {x : Value} {lo hi : Option Value} {dlo dhi : Option DV} {dx d : DV} (hu : P.underlying t = some .string) (h : slcSD dlo dhi dx = some d) (hx : VR w H Z x dx)
  (nlo : lo = none ↔ dlo = none) (vlo : ∀ v e, lo = some v → dlo = some e → VR w H Z v e) (nhi : hi = none ↔ dhi = none) (vhi : ∀ v e, hi = some v → dhi = some e → VR w H Z v e) :
  ∃ v, (Instr.sliceAt t x lo hi none).run P w = .ok v w ∧ VR w H Z v d := by
 unfold slcSD at h
 split at h <;> first | (cases h; done) | skip
 obtain ⟨s, rfl, rfl⟩ := hx.str_inv
 cases hh : bndD s.data.toList.length dhi s.data.toList.length with
 | none => rw [hh] at h; cases h
 | some hb =>
   rw [hh] at h
   simp only [Option.bind_some] at h
   cases hl : bndD hb dlo 0 with
   | none => rw [hl] at h; cases h
   | some lb =>
     rw [hl] at h
     simp only [Option.bind_some, Option.some.injEq] at h
     subst h
     rw [toList_size] at hh
     refine ⟨.string (s.extract lb hb), ?_, .str _ _ ?_⟩
     · simp only [Instr.sliceAt, Sem.run_bind, run_underlying hu, Result.andThen_ok, Instr.slice, Option.isSome_none, Bool.false_eq_true, if_false, Sem.run_pure,
        sliceBounds_run hh hl (Nat.le_refl _) nlo vlo nhi vhi]
     · rw [Lib.extract_data, List.drop_take]
theorem slcD_sound {t e : TypeId} {i : TypeInfo} {x : Value} {lo hi mx : Option Value} {dlo dhi dmx : Option DV} {dx d : DV} (hu : P.underlying t = some (.slice e)) (hi' : P.info? e = some i)
  (h : slcD i.size dlo dhi dmx dx = some d) (hx : VR w H Z x dx)
  (nlo : lo = none ↔ dlo = none) (vlo : ∀ v e, lo = some v → dlo = some e → VR w H Z v e) (nhi : hi = none ↔ dhi = none) (vhi : ∀ v e, hi = some v → dhi = some e → VR w H Z v e)
  (nmx : mx = none ↔ dmx = none) (vmx : ∀ v e, mx = some v → dmx = some e → VR w H Z v e) :
  ∃ v, (Instr.sliceAt t x lo hi mx).run P w = .ok v w ∧ VR w H Z v d := by
 have base : ∀ {A : Option Addr} {n c hb lb : Nat}, mx = none → bndD n dhi n = some hb → bndD hb dlo 0 = some lb → n ≤ c →
   (Instr.sliceAt t (.slice A n c) lo hi mx).run P w = .ok (.slice (if c = lb then A else A.map (·.add (lb * i.size))) (hb - lb) (c - lb)) w := by
  intro A n c hb lb hm hh hl hc
  subst hm
  simp only [Instr.sliceAt, Sem.run_bind, run_underlying hu, Result.andThen_ok, Instr.slice, sliceBounds_run hh hl hc nlo vlo nhi vhi, run_sizeOf hi', Sem.run_pure]
 unfold slcD at h
 split at h <;> first | (cases h; done) | skip
 · rename_i cs n sz' tag
   split at h <;> first | (cases h; done) | skip
   · have hm : mx = none := nmx.2 rfl
     split at h <;> first | (cases h; done) | skip
     rename_i hsz
     subst hsz
     cases hh : bndD n dhi n with
     | none => rw [hh] at h; cases h
     | some hb =>
       rw [hh] at h
       simp only [Option.bind_some] at h
       cases hl : bndD hb dlo 0 with
       | none => rw [hl] at h; cases h
       | some lb =>
         rw [hl] at h
         simp only [Option.bind_some, Option.some.injEq] at h
         subst h
         obtain ⟨A, c, vs, rfl, h1, h2, h4, ht, hA⟩ := hx.lst_inv
         have hbn : hb ≤ n := bndD_le hh (Nat.le_refl _)
         have hlb : lb ≤ hb := bndD_le hl (Nat.zero_le _)
         refine ⟨_, base hm hh hl h2, ?_⟩
         have hlen : ((cs.take (hb * i.size)).drop (lb * i.size)).length = (hb - lb) * i.size := by
          rw [List.length_drop, List.length_take, h1, Nat.min_eq_left (Nat.mul_le_mul_right _ hbn), Nat.sub_mul]
         have hget : ∀ j, j < ((cs.take (hb * i.size)).drop (lb * i.size)).length → lb * i.size + j < cs.length ∧ lb < hb ∧ ((cs.take (hb * i.size)).drop (lb * i.size))[j]? = cs[lb * i.size + j]? := by
          intro j hj
          rw [hlen] at hj
          have hpos : 0 < (hb - lb) * i.size := by omega
          have hlt : lb < hb := by
           rcases Nat.lt_or_ge lb hb with h | h
           · exact h
           · rw [Nat.sub_eq_zero_of_le h, Nat.zero_mul] at hpos; omega
          have hj2 : lb * i.size + j < hb * i.size := by rw [Nat.sub_mul] at hj; omega
          have hj3 : hb * i.size ≤ n * i.size := Nat.mul_le_mul_right _ hbn
          refine ⟨by omega, hlt, ?_⟩
          rw [List.getElem?_drop, List.getElem?_take, if_pos hj2]
         refine .lst _ _ _ _ _ _ (fun j => vs (lb * i.size + j)) hlen (by omega) (fun j hj => ?_) (fun j hj => ?_) (fun j d hd => ?_) ?_
         · obtain ⟨g1, g2, g3⟩ := hget j hj
           obtain ⟨a, rfl, hcp⟩ := hA (by intro e; rw [e] at g1; simp at g1)
           have hcl : ¬ c = lb := by omega
           obtain ⟨k1, k2⟩ := hcp.cell _ g1
           refine ⟨a.add (lb * i.size), by rw [if_neg hcl]; rfl, by rw [add_off hcp.spot], ?_, ?_⟩
           · rw [add_off hcp.spot]; simpa [Nat.add_assoc] using k1
           · rw [add_off hcp.spot]; simpa [Nat.add_assoc] using k2
         · obtain ⟨g1, g2, g3⟩ := hget j hj
           obtain ⟨a, rfl, hcp⟩ := hA (by intro e; rw [e] at g1; simp at g1)
           exact hcp.one _ g1
         · have hj := (List.getElem?_eq_some_iff.1 hd).1
           obtain ⟨g1, g2, g3⟩ := hget j hj
           rw [g3] at hd
           exact h4 _ _ hd
         · intro b off he
           split at he
           · rename_i hlt
             cases tag with
             | none => cases he
             | some tg =>
               simp only [Option.map_some, Option.some.injEq] at he
               obtain ⟨b0, off0⟩ := tg
               cases he
               obtain ⟨t1, t2⟩ := ht b0 off0 rfl
               refine ⟨t1, fun f sz' ty hf => ?_⟩
               obtain ⟨u1, u2⟩ := t2 f sz' ty hf
               refine ⟨by omega, fun e => ?_⟩
               obtain ⟨v1, v2, arr, fz, v3, v4⟩ := u2 (by omega)
               refine ⟨v1, ?_, arr, fz, v3, ?_⟩
               · rw [if_neg (by omega), v2]
                 simp only [Option.map_some, add_off (a := ⟨b0, off0 * i.size, none⟩) rfl, Nat.add_mul]
               · rw [v4]; congr 1; omega
           · cases he
   all_goals
    obtain ⟨A, c, vs, rfl, _⟩ := hx.lst_inv
    cases h
    have getv : ∀ {o : Option Value} {k : IntKind}, (o = none ↔ some (DV.int k 0) = none) → (∀ v e, o = some v → some (DV.int k 0) = some e → VR w H Z v e) → o = some (.int k 0) := by
     intro o k h1 h2
     cases o with
     | none => exact absurd (h1.1 rfl) (by simp)
     | some v => rw [(h2 v _ rfl rfl).int_inv]
    have e1 := getv nhi vhi
    have e2 := getv nmx vmx
    have e3 : lo = none ∨ ∃ k, lo = some (.int k 0) := by first | exact .inl (nlo.2 rfl) | exact .inr ⟨_, getv nlo vlo⟩
    subst e1; subst e2
    exact ⟨.slice A 0 0, by simp [Instr.sliceAt, run_underlying hu, Instr.slice, bounds_zero e3, run_sizeOf hi'], .zc A⟩
 · cases hx
   have getv : ∀ {o : Option Value} {k : IntKind}, (o = none ↔ some (DV.int k 0) = none) → (∀ v e, o = some v → some (DV.int k 0) = some e → VR w H Z v e) → o = some (.int k 0) := by
    intro o k h1 h2
    cases o with
    | none => exact absurd (h1.1 rfl) (by simp)
    | some v => rw [(h2 v _ rfl rfl).int_inv]
   split at h <;> cases h
   · have e1 := getv nhi vhi
     have e2 := getv nmx vmx
     have e3 := nlo.2 rfl
     subst e1; subst e2; subst e3
     exact ⟨_, by simp [Instr.sliceAt, run_underlying hu, Instr.slice, bounds_zero (.inl rfl), run_sizeOf hi'], .nils⟩
   · have e1 := getv nhi vhi
     have e2 := getv nmx vmx
     have e3 := getv nlo vlo
     subst e1; subst e2; subst e3
     exact ⟨_, by simp [Instr.sliceAt, run_underlying hu, Instr.slice, bounds_zero (.inr ⟨_, rfl⟩), run_sizeOf hi'], .nils⟩
   · have e1 := getv nhi vhi
     have e2 := nmx.2 rfl
     have hb := base (A := none) (n := 0) (c := 0) (hb := 0) (lb := 0) e2 (by simp [bndD]) (by simp [bndD]) (Nat.le_refl _)
     exact ⟨_, hb, .nils⟩
   · have e2 := nmx.2 rfl
     have hb := base (A := none) (n := 0) (c := 0) (hb := 0) (lb := 0) e2 (by simp [bndD]) (by simp [bndD]) (Nat.le_refl _)
     exact ⟨_, hb, .nils⟩
   · have e2 := nmx.2 rfl
     have hb := base (A := none) (n := 0) (c := 0) (hb := 0) (lb := 0) e2 (by simp [bndD]) (by simp [bndD]) (Nat.le_refl _)
     exact ⟨_, hb, .nils⟩
 · rename_i b off n cap
   split at h <;> first | (cases h; done) | skip
   have hm : mx = none := nmx.2 rfl
   cases hh : bndD n dhi n with
   | none => rw [hh] at h; cases h
   | some hb =>
     rw [hh] at h
     simp only [Option.bind_some] at h
     cases hl : bndD hb dlo 0 with
     | none => rw [hl] at h; cases h
     | some lb =>
       rw [hl] at h
       simp only [Option.bind_some] at h
       split at h <;> cases h
       rename_i hlc
       cases hx
       rename_i hcn
       refine ⟨_, base hm hh hl hcn, ?_⟩
       rw [if_neg (by omega)]
       simp only [Option.map_some, add_off (a := ⟨b, off, none⟩) rfl]
       have := bndD_le hh (Nat.le_refl _)
       exact .win _ _ _ _ (by omega)
theorem slcAD_sound {t e : TypeId} {n : Nat} {i : TypeInfo} {x : Value} {lo hi : Option Value} {dlo dhi : Option DV} {dx d : DV} (hu : P.underlying t = some (.array n e)) (hi' : P.info? e = some i)
  (h : slcAD n i.size dlo dhi dx = some d) (hx : VR w H Z x dx)
  (nlo : lo = none ↔ dlo = none) (vlo : ∀ v e, lo = some v → dlo = some e → VR w H Z v e) (nhi : hi = none ↔ dhi = none) (vhi : ∀ v e, hi = some v → dhi = some e → VR w H Z v e) :
  ∃ v, (Instr.sliceAt t x lo hi none).run P w = .ok v w ∧ VR w H Z v d := by
 unfold slcAD at h
 split at h <;> first | (cases h; done) | skip
 rename_i b off
 rw [hx.ptr_inv]
 cases hh : bndD n dhi n with
 | none => rw [hh] at h; cases h
 | some hb =>
   rw [hh] at h
   simp only [Option.bind_some] at h
   cases hl : bndD hb dlo 0 with
   | none => rw [hl] at h; cases h
   | some lb =>
     rw [hl] at h
     simp only [Option.bind_some] at h
     split at h <;> cases h
     rename_i hlc
     refine ⟨.slice (some ⟨b, off + lb * i.size, none⟩) (hb - lb) (n - lb), ?_, .win _ _ _ _ (by have := bndD_le hh (Nat.le_refl _); omega)⟩
     simp only [Instr.sliceAt, Sem.run_bind, run_underlying hu, Result.andThen_ok, Instr.sureAddr, Sem.run_pure, sliceBounds_run hh hl (Nat.le_refl _) nlo vlo nhi vhi, run_sizeOf hi']
     rw [if_neg (by omega), add_off (a := ⟨b, off, none⟩) rfl]
end
section
variable {P : Program} {G : Gl} {N : Nat} {w : World} {H : Hp} {Z : Zn}
def Yv (P : Program) (w : World) (H : Hp) (Z : Zn) (ρ : Operand → Value) (o : Op) (d : DV) : Prop :=
 ∃ v, (∀ O : Oper, O.op = o → (execOp ρ O).run P w = .ok (.value v) w) ∧ VR w H Z v d
theorem execOp_v {ρ : Operand → Value} {O : Oper} {s : Sem Value} (h : execOp ρ O = do pure (.value (← s))) {v : Value} (hs : s.run P w = .ok v w) : (execOp ρ O).run P w = .ok (.value v) w := by
 rw [h]; simp [hs]
theorem idxD_sound {t : TypeId} {x i : Value} {dx di d : DV} (hu : P.underlying t = some .string) (h : idxD dx di = some d) (hx : VR w H Z x dx) (hi : VR w H Z i di) :
  ∃ v, (Instr.index t x i).run P w = .ok v w ∧ VR w H Z v d := by
 unfold idxD at h
 split at h <;> first | (cases h; done) | skip
 obtain ⟨s, rfl, rfl⟩ := hx.str_inv
 rw [hi.int_inv]
 split at h
 · rename_i k n h0
   have hk : n.toNat < s.data.toList.length := by
    cases e : s.data.toList[n.toNat]? with
    | none => rw [e] at h; simp at h
    | some b => exact (List.getElem?_eq_some_iff.1 e).1
   rw [List.getElem?_eq_getElem hk] at h
   simp only [Option.map_some, Option.some.injEq] at h
   subst h
   have hs : n.toNat < s.size := by rw [← toList_size]; exact hk
   have e : s[n.toNat]? = some (s.data.toList[n.toNat]) := by
    rw [getElem?_pos s n.toNat hs]
    rfl
   refine ⟨.int .u8 (s.data.toList[n.toNat]).toNat, ?_, .int _ _⟩
   simp only [Instr.index, asIntOf, Sem.run_bind, Sem.run_pure, Result.andThen_ok, run_underlying hu, h0, if_true, e]
 · cases h
theorem fieldPlace_run {a : Addr} {f : Field} {i : TypeInfo} (hi : P.info? f.type = some i) (hs : i.size ≠ 0) : (fieldPlace a f).run P w = .ok (a.add f.offset) w := by
 simp [fieldPlace, run_sizeOf hi, hs]
theorem fadrD_sound {t : TypeId} {fs : Array Field} {f : Field} {n : Nat} {i : TypeInfo} {x : Value} {dx d : DV} (hu : P.underlying t = some (.struct fs)) (hf : fs[n]? = some f) (hi : P.info? f.type = some i) (hs : i.size ≠ 0)
  (h : fadrD f.offset dx = some d) (hx : VR w H Z x dx) : ∃ v, (Instr.fieldAt t x n).run P w = .ok v w ∧ VR w H Z v d := by
 unfold fadrD at h
 split at h <;> cases h
 · rw [hx.ptr_inv]
   refine ⟨_, ?_, .ptr _ _⟩
   simp only [Instr.fieldAt, Sem.run_bind, run_underlying hu, Result.andThen_ok, hf, Instr.sureAddr, Sem.run_pure, fieldPlace_run hi hs]
   rw [add_off rfl]
 · obtain ⟨a, vs, rfl, hc⟩ := hx.cptr_inv
   refine ⟨_, ?_, (hc.drop f.offset).vr⟩
   simp only [Instr.fieldAt, Sem.run_bind, run_underlying hu, Result.andThen_ok, hf, Instr.sureAddr, Sem.run_pure, fieldPlace_run hi hs]
theorem iadrD_sound {t e : TypeId} {i : TypeInfo} {x ix : Value} {dx di d : DV} (hu : P.underlying t = some (.slice e)) (hi : P.info? e = some i) (hsz : i.size ≠ 0)
  (h : iadrD i.size dx di = some d) (hx : VR w H Z x dx) (hix : VR w H Z ix di) : ∃ v, (Instr.indexAt t x ix).run P w = .ok v w ∧ VR w H Z v d := by
 unfold iadrD at h
 split at h <;> first | (cases h; done) | skip
 · rename_i cs n sz' tag k j
   split at h <;> cases h
   rename_i hc
   obtain ⟨h0, h1, rfl⟩ := hc
   rw [hix.int_inv]
   obtain ⟨A, c, vs, rfl, hl, _, _, _, hA⟩ := hx.lst_inv
   have hne : cs ≠ [] := by
    intro he
    rw [he] at hl
    have : 0 < n := by omega
    have := Nat.mul_pos this (Nat.pos_of_ne_zero hsz)
    simp at hl
    omega
   obtain ⟨a, rfl, hcp⟩ := hA hne
   refine ⟨_, ?_, (hcp.drop (j.toNat * i.size)).vr⟩
   simp only [Instr.indexAt, asIntOf, Sem.run_bind, Sem.run_pure, Result.andThen_ok, run_underlying hu, run_sizeOf hi, h0, h1, and_self, if_true]
 · rename_i b off n cap k j
   split at h <;> cases h
   rename_i hc
   rw [hix.int_inv]
   cases hx
   refine ⟨_, ?_, .ptr b (off + j.toNat * i.size)⟩
   simp only [Instr.indexAt, asIntOf, Sem.run_bind, Sem.run_pure, Result.andThen_ok, run_underlying hu, run_sizeOf hi, hc, and_self, if_true]
   rw [add_off rfl]
theorem iadrAD_sound {t e : TypeId} {len : Nat} {i : TypeInfo} {x ix : Value} {dx di d : DV} (hu : P.underlying t = some (.array len e)) (hi : P.info? e = some i)
  (h : iadrAD len i.size dx di = some d) (hx : VR w H Z x dx) (hix : VR w H Z ix di) : ∃ v, (Instr.indexAt t x ix).run P w = .ok v w ∧ VR w H Z v d := by
 unfold iadrAD at h
 split at h <;> first | (cases h; done) | skip
 · rename_i b off k j
   split at h <;> cases h
   rename_i hc
   rw [hix.int_inv, hx.ptr_inv]
   refine ⟨_, ?_, .ptr b (off + j.toNat * i.size)⟩
   simp only [Instr.indexAt, asIntOf, Instr.sureAddr, Sem.run_bind, Sem.run_pure, Result.andThen_ok, run_underlying hu, run_sizeOf hi, hc, and_self, if_true]
   rw [add_off rfl]
 · rename_i cs k j
   split at h <;> cases h
   rename_i hc
   rw [hix.int_inv]
   obtain ⟨a, vs, rfl, hcp⟩ := hx.cptr_inv
   refine ⟨_, ?_, (hcp.drop (j.toNat * i.size)).vr⟩
   simp only [Instr.indexAt, asIntOf, Instr.sureAddr, Sem.run_bind, Sem.run_pure, Result.andThen_ok, run_underlying hu, run_sizeOf hi, hc, and_self, if_true]
theorem ldD_sound {t : TypeId} {i : TypeInfo} {d0 : TypeDesc} {x : Value} {dx d : DV} (hr : HR G w H Z) (hu : P.underlying t = some d0) (hi : P.info? t = some i)
  (h : ldD H (isAggT P t) (if isAggT P t then i.size else 1) dx = some d) (hx : VR w H Z x dx) : ∃ v, (Instr.loadAt t x).run P w = .ok v w ∧ VR w H Z v d := by
 unfold ldD at h
 split at h <;> first | (cases h; done) | skip
 · rename_i b off
   rw [hx.ptr_inv]
   cases hb : H b with
   | none => rw [hb] at h; cases h
   | some o =>
     rw [hb] at h
     cases o with
     | cells cs ty =>
       simp only at h
       obtain ⟨arr, fz, hw, _, hs, ho, hv⟩ := hr.obj b _ hb
       obtain ⟨v, h1, h2⟩ := run_loadVar (P := P) (w := w) (H := H) (Z := Z) (a := ⟨b, off, none⟩) hu hi rfl (cs := cs) (vs := fun j => arr.getD j undef) (off := off)
        (fun j hj => by
         rw [cell_of_row w b _ arr ty fz hw]
         have : off + j < arr.size := by omega
         simp [Array.getD, this])
        (fun j hj => by
         have : j < arr.size := by omega
         have e : arr.getD j undef = arr[j] := by simp [Array.getD, this]
         rw [e]; exact ho j _ (Array.getElem?_eq_getElem this))
        (fun j d hd => by
         have hlt := (List.getElem?_eq_some_iff.1 hd).1
         have : j < arr.size := by omega
         have e : arr.getD j undef = arr[j] := by simp [Array.getD, this]
         rw [e]
         exact hv j _ d (Array.getElem?_eq_getElem this) hd) h
       exact ⟨v, by simpa only [Instr.loadAt, Instr.sureAddr, Sem.run_bind, Sem.run_pure, Result.andThen_ok] using h1, h2⟩
     | front _ _ _ => cases h
     | mapo _ => cases h
     | raw _ => cases h
     | loop N ps as bd fr st pend => cases h
 · rename_i cs
   obtain ⟨a, vs, rfl, hc⟩ := hx.cptr_inv
   obtain ⟨v, h1, h2⟩ := run_loadVar (P := P) (w := w) (H := H) (Z := Z) (a := a) hu hi hc.spot (cs := cs) (vs := vs) (off := 0)
    (fun j hj => by simpa using (hc.cell j (by omega)).1) hc.one hc.val h
   exact ⟨v, by simpa only [Instr.loadAt, Instr.sureAddr, Sem.run_bind, Sem.run_pure, Result.andThen_ok] using h1, h2⟩
theorem field_sound {t : TypeId} {fs : Array Field} {f : Field} {n : Nat} {i : TypeInfo} {d0 : TypeDesc} {x : Value} {cs : List DV} {d : DV} (hu : P.underlying t = some (.struct fs)) (hf : fs[n]? = some f)
  (hu' : P.underlying f.type = some d0) (hi : P.info? f.type = some i) (h : partD (isAggT P f.type) f.offset i.size cs = some d) (hx : VR w H Z x (.agg cs)) :
  ∃ v, (Instr.field t x n).run P w = .ok v w ∧ VR w H Z v d := by
 obtain ⟨vs, rfl, hs, ho, hv⟩ := hx.agg_inv
 obtain ⟨v, h1, h2⟩ := run_part (P := P) (w := w) hu' hi hs ho hv h
 refine ⟨v, ?_, h2⟩
 simp only [Instr.field, Sem.run_bind, run_underlying hu, Result.andThen_ok, hf, asAgg, Sem.run_pure, h1]
theorem lenS_sound {t ty : TypeId} {x : Value} {dx d : DV} (hu : P.underlying t = some .string) (h : lenD true dx = some d) (hx : VR w H Z x dx) :
  ∃ v, (Builtin.len_ #[t] ty #[x]).run P w = .ok v w ∧ VR w H Z v d := by
 unfold lenD at h
 split at h <;> first | (cases h; done) | skip
 all_goals rename_i hb
 all_goals first | (cases hb; done) | skip
 all_goals cases h
 obtain ⟨s, rfl, rfl⟩ := hx.str_inv
 exact ⟨.int .i64 s.size, by simp [Builtin.len_, run_underlying hu, goInt], by rw [toList_size]; exact .int _ _⟩
theorem lenL_sound {t ty e : TypeId} {x : Value} {dx d : DV} (hu : P.underlying t = some (.slice e)) (h : lenD false dx = some d) (hx : VR w H Z x dx) :
  ∃ v, (Builtin.len_ #[t] ty #[x]).run P w = .ok v w ∧ VR w H Z v d := by
 unfold lenD at h
 split at h <;> first | (cases h; done) | skip
 · rename_i hb; cases hb
 · cases h
   obtain ⟨A, c, vs, rfl, _⟩ := hx.lst_inv
   exact ⟨_, by simp [Builtin.len_, run_underlying hu, goInt], .int _ _⟩
 · cases h
   cases hx
   exact ⟨_, by simp [Builtin.len_, run_underlying hu, goInt], .int _ _⟩
 · cases h
   cases hx
   exact ⟨_, by simp [Builtin.len_, run_underlying hu, goInt], .int _ _⟩
theorem vr_map {base : BS} {a : Act} {fr : Fr} (hr : HR G w H Z) (hf : FR w H Z base N a fr) (xs : Array Operand) (hx : (xs.toList.map cX).all (XOk N) = true) :
  (xs.map a.eval).size = (xs.toList.map (fun x => XV G fr (cX x))).length ∧ ∀ (j : Nat) (v : Value) (d : DV), (xs.map a.eval)[j]? = some v → (xs.toList.map (fun x => XV G fr (cX x)))[j]? = some d → VR w H Z v d := by
 refine ⟨by simp, fun j v d h1 h2 => ?_⟩
 rw [Array.getElem?_map] at h1
 rw [List.getElem?_map, Array.getElem?_toList] at h2
 cases e : xs[j]? with
 | none => rw [e] at h1; cases h1
 | some x =>
   rw [e] at h1 h2
   simp only [Option.map_some, Option.some.injEq] at h1 h2
   subst h1; subst h2
   refine cX_sound hr hf ?_
   have hm : cX x ∈ xs.toList.map cX := List.mem_map_of_mem (by rw [Array.mem_toList_iff]; exact Array.mem_of_getElem? e)
   exact List.all_eq_true.1 hx _ hm
theorem Yv.mk {ρ : Operand → Value} {o : Op} {d : DV} {s : Sem Value} (h : ∀ O : Oper, O.op = o → execOp ρ O = do pure (.value (← s))) (hs : ∃ v, s.run P w = .ok v w ∧ VR w H Z v d) : Yv P w H Z ρ o d :=
 let ⟨v, h1, h2⟩ := hs; ⟨v, fun O hO => execOp_v (h O hO) h1, h2⟩
theorem bindP {α : Type} {x : Option α} {f : α → Option OP} {op : OP} (h : x.bind f = some op) : ∃ i, x = some i ∧ f i = some op := by
 cases x with
 | none => cases h
 | some i => exact ⟨i, rfl, h⟩
theorem bindP' {α β : Type} {x : Option α} {f : α → Option β} {y : β} (h : x.bind f = some y) : ∃ i, x = some i ∧ f i = some y := by
 cases x with
 | none => cases h
 | some i => exact ⟨i, rfl, h⟩
theorem zeroT_sound {t : TypeId} {z : List DV × Nat} (h : zeroT P t = some z) : ∃ i z0, P.info? t = some i ∧ i.zero = some z0 ∧ z0.cells.toList.map cV = z.1 ∧ z.2 = i.size ∧ z0.cells.all (·.oneCell') = true ∧ z0.cells.size = i.size := by
 unfold zeroT at h
 obtain ⟨i, h1, h⟩ := bindP' h
 obtain ⟨z0, h2, h⟩ := bindP' h
 split at h
 · rename_i hc
   cases h
   simp only [Bool.and_eq_true, beq_iff_eq] at hc
   exact ⟨i, z0, h1, h2, rfl, rfl, hc.1, hc.2⟩
 · cases h
theorem zero_RL {z0 : Value} {n : Nat} (h : z0.cells.all (·.oneCell') = true ∧ z0.cells.size = n) : RL w H Z z0.cells (z0.cells.toList.map cV) := by
 refine ⟨by simp, fun j v hj => ?_, fun j v d hj hd => ?_⟩
 · have := Array.all_eq_true.1 h.1 j (Array.getElem?_eq_some_iff.1 hj).1
   rw [(Array.getElem?_eq_some_iff.1 hj).2] at this
   exact this
 · rw [List.getElem?_map, Array.getElem?_toList, hj] at hd
   cases hd
   exact cV_sound v
theorem cParts_sound {pl : List (Nat × Nat)} : ∀ (ps : List (Nat × Operand)) (l : List (Nat × Nat × X)), cParts pl ps = some l →
  ps.length = l.length ∧ ∀ (j : Nat) p q, ps[j]? = some p → l[j]? = some q → pl[p.1]? = some (q.1, q.2.1) ∧ q.2.2 = cX p.2
 | [], l, h => by cases h; exact ⟨rfl, fun j p q e => by simp at e⟩
 | (k, x) :: ps, l, h => by
   simp only [cParts] at h
   obtain ⟨p, h1, h⟩ := bindP' h
   obtain ⟨r, h2, h⟩ := bindP' h
   cases h
   obtain ⟨g1, g2⟩ := cParts_sound ps r h2
   refine ⟨by simp [g1], fun j p' q e1 e2 => ?_⟩
   rcases j with _ | j
   · simp at e1 e2; subst e1; subst e2; exact ⟨h1, rfl⟩
   · exact g2 j p' q (by simpa using e1) (by simpa using e2)
theorem evP_sound {o : Op} {op : OP} {d : DV} {base : BS} {a : Act} {fr : Fr} (hr : HR G w H Z) (hf : FR w H Z base N a fr) (hc : cOp P o = some op) (hx : (opX op).all (XOk N) = true)
  (he : evP G fr H op = some d) : Yv P w H Z a.eval o d := by
 cases o
 case move x =>
  cases hc
  simp only [evP, Option.some.injEq] at he; subst he
  exact ⟨_, fun O hO => by simp [execOp, hO], cX_sound hr hf (by simpa [opX] using hx)⟩
 case assign x =>
  cases hc
  simp only [evP, Option.some.injEq] at he; subst he
  exact ⟨_, fun O hO => by simp [execOp, hO], cX_sound hr hf (by simpa [opX] using hx)⟩
 case pick c x y =>
  cases hc
  simp only [opX, List.all_cons, List.all_nil, Bool.and_true, Bool.and_eq_true] at hx
  have h1 := cX_sound hr hf hx.1
  simp only [evP] at he
  split at he
  · rename_i e
    rw [e] at h1
    cases he
    exact ⟨_, fun O hO => by simp [execOp, hO, h1.bool_inv, asBool], cX_sound hr hf hx.2.1⟩
  · rename_i e
    rw [e] at h1
    cases he
    exact ⟨_, fun O hO => by simp [execOp, hO, h1.bool_inv, asBool], cX_sound hr hf hx.2.2⟩
  · cases he
 case binOp op' t x y yt =>
  have key : (op = .bin op' (cX x) (cX y)) ∨ (∃ k, op = .eqn (isNeq op') k (cX x) (cX y) ∧ (op' = .eql ∨ op' = .neq) ∧ EKof P t k) ∨ ∃ o', op = .oth o' := by
   simp only [cOp] at hc
   split at hc
   · split at hc
     all_goals first
      | (cases hc; exact .inl rfl)
      | (obtain ⟨i, h1, h2⟩ := bindP hc
         split at h2
         · cases h2
         · cases h2; exact .inr (.inl ⟨_, rfl, .inl rfl, _, _, ‹_›, h1, ‹_›⟩))
      | (cases hc; exact .inr (.inl ⟨_, rfl, .inl rfl, ‹_›⟩))
      | (cases hc; exact .inr (.inl ⟨_, rfl, .inl rfl, _, ‹_›⟩))
      | (cases hc; exact .inr (.inl ⟨_, rfl, .inl rfl, _, _, ‹_›⟩))
      | (cases hc; exact .inr (.inl ⟨_, rfl, .inl rfl, _, _, _, ‹_›⟩))
      | (cases hc; exact .inr (.inr ⟨_, rfl⟩))
   · split at hc
     all_goals first
      | (cases hc; exact .inl rfl)
      | (obtain ⟨i, h1, h2⟩ := bindP hc
         split at h2
         · cases h2
         · cases h2; exact .inr (.inl ⟨_, rfl, .inr rfl, _, _, ‹_›, h1, ‹_›⟩))
      | (cases hc; exact .inr (.inl ⟨_, rfl, .inr rfl, ‹_›⟩))
      | (cases hc; exact .inr (.inl ⟨_, rfl, .inr rfl, _, ‹_›⟩))
      | (cases hc; exact .inr (.inl ⟨_, rfl, .inr rfl, _, _, ‹_›⟩))
      | (cases hc; exact .inr (.inl ⟨_, rfl, .inr rfl, _, _, _, ‹_›⟩))
      | (cases hc; exact .inr (.inr ⟨_, rfl⟩))
   · split at hc <;> cases hc <;> first | exact .inl rfl | exact .inr (.inr ⟨_, rfl⟩)
  rcases key with rfl | ⟨k, rfl, hop, hk⟩ | ⟨o', rfl⟩
  · simp only [opX, List.all_cons, List.all_nil, Bool.and_true, Bool.and_eq_true] at hx
    simp only [evP] at he
    obtain ⟨⟨v, h1, h2⟩, h3, h4⟩ := binD_sound (P := P) (t := t) he (cX_sound hr hf hx.1) (cX_sound hr hf hx.2)
    refine ⟨v, fun O hO => ?_, h2⟩
    refine execOp_v (s := do eqGuard op' t x y (a.eval x) (a.eval y); binOp op' t (a.eval x) (a.eval y)) (by simp only [execOp, hO]) ?_
    simp only [Sem.run_bind, eqGuard_scalar op' t x y h3 h4, Result.andThen_ok, h1]
  · simp only [opX, List.all_cons, List.all_nil, Bool.and_true, Bool.and_eq_true] at hx
    simp only [evP] at he
    cases hb : eqD k (XV G fr (cX x)) (XV G fr (cX y)) with
    | none => rw [hb] at he; cases he
    | some b =>
      rw [hb] at he
      simp only [Option.map_some, Option.some.injEq] at he
      subst he
      exact ⟨_, fun O hO => execOp_v (s := do eqGuard op' t x y (a.eval x) (a.eval y); binOp op' t (a.eval x) (a.eval y)) (by simp only [execOp, hO])
       (eqD_sound hk hb (cX_sound hr hf hx.1) (cX_sound hr hf hx.2) op' hop x y), .bool _⟩
  · cases he
 case unOp op' t x =>
  cases hc
  simp only [opX, List.all_cons, List.all_nil, Bool.and_true] at hx
  have h1 := cX_sound hr hf hx
  simp only [evP, unD] at he
  split at he <;> first | (cases he; done) | skip
  · rename_i e; rw [e] at h1; cases he
    exact .mk (s := Op.unary .not (a.eval x)) (fun O hO => by simp only [execOp, hO]) ⟨_, by rw [h1.bool_inv]; rfl, .bool _⟩
  · rename_i e; rw [e] at h1; cases he
    exact .mk (s := Op.unary .neg (a.eval x)) (fun O hO => by simp only [execOp, hO]) ⟨_, by rw [h1.int_inv]; rfl, .int _ _⟩
 case convert s0 t x =>
  simp only [cOp] at hc
  split at hc
  · rename_i h1 h2
    cases hc
    simp only [opX, List.all_cons, List.all_nil, Bool.and_true] at hx
    have hv := cX_sound hr hf hx
    simp only [evP, convD] at he
    split at he <;> cases he
    rename_i e
    rw [e] at hv
    exact .mk (s := convert s0 t (a.eval x)) (fun O hO => by simp only [execOp, hO]) ⟨_, by rw [hv.int_inv]; simp [convert, run_underlying h1, run_underlying h2, Conv.intToInt], .int _ _⟩
  · rename_i h1 h2
    cases hc
    simp only [opX, List.all_cons, List.all_nil, Bool.and_true] at hx
    have hv := cX_sound hr hf hx
    simp only [evP, strD] at he
    split at he <;> cases he
    rename_i e
    rw [e] at hv
    obtain ⟨s, hs1, hs2⟩ := hv.str_inv
    refine .mk (s := convert s0 t (a.eval x)) (fun O hO => by simp only [execOp, hO]) ⟨.string s, ?_, .str _ _ hs2⟩
    rw [hs1]
    simp [convert, run_underlying h1, run_underlying h2]
  all_goals (first | (cases hc; cases he; done) | (split at hc <;> (cases hc; cases he)))
 case extract x i =>
  cases hc
  simp only [opX, List.all_cons, List.all_nil, Bool.and_true] at hx
  have hv := cX_sound hr hf hx
  simp only [evP, extD] at he
  split at he <;> first | (cases he; done) | skip
  rename_i e
  rw [e] at hv
  obtain ⟨vs, h1, h2, h3⟩ := hv.tup_inv
  have hlt := (List.getElem?_eq_some_iff.1 he).1
  have hlt' : i < vs.size := by omega
  exact .mk (s := Instr.extract (a.eval x) i) (fun O hO => by simp only [execOp, hO]) ⟨vs[i], by rw [h1]; simp [Instr.extract, hlt'], h3 i _ _ (Array.getElem?_eq_getElem hlt') he⟩
 case field t x n =>
  simp only [cOp] at hc
  split at hc <;> first | (cases hc; done) | skip
  split at hc <;> first | (cases hc; done) | skip
  rename_i fs hu _ f hfn
  obtain ⟨i, hi, h2⟩ := bindP hc
  split at h2
  · rename_i hg
    obtain ⟨d0, hd0⟩ := underlying_agg hg
    cases h2
    simp only [opX, List.all_cons, List.all_nil, Bool.and_true] at hx
    have hv := cX_sound hr hf hx
    simp only [evP] at he
    split at he <;> first | (cases he; done) | skip
    rename_i cs e
    rw [e] at hv
    exact .mk (fun O hO => by simp only [execOp, hO]) (field_sound hu hfn hd0 hi (by rw [hg]; exact he) hv)
  · rename_i hg
    split at h2 <;> first | (cases h2; done) | skip
    rename_i d0 hd0
    cases h2
    simp only [opX, List.all_cons, List.all_nil, Bool.and_true] at hx
    have hv := cX_sound hr hf hx
    simp only [evP] at he
    split at he <;> first | (cases he; done) | skip
    rename_i cs e
    rw [e] at hv
    have hg' : isAggT P f.type = false := by simpa using hg
    exact .mk (fun O hO => by simp only [execOp, hO]) (field_sound hu hfn hd0 hi (by rw [hg']; exact he) hv)
 case index t x n =>
  simp only [cOp] at hc
  split at hc
  · rename_i hu
    cases hc
    simp only [opX, List.all_cons, List.all_nil, Bool.and_true, Bool.and_eq_true] at hx
    exact .mk (fun O hO => by simp only [execOp, hO]) (idxD_sound hu he (cX_sound hr hf hx.1) (cX_sound hr hf hx.2))
  · cases hc; cases he
 case fieldAddr t x n =>
  simp only [cOp] at hc
  split at hc <;> first | (cases hc; done) | skip
  split at hc <;> first | (cases hc; done) | skip
  rename_i fs hu _ f hfn
  obtain ⟨i, hi, h2⟩ := bindP hc
  split at h2 <;> first | (cases h2; done) | skip
  rename_i hs
  cases h2
  simp only [opX, List.all_cons, List.all_nil, Bool.and_true] at hx
  exact .mk (fun O hO => by simp only [execOp, hO]) (fadrD_sound hu hfn hi hs he (cX_sound hr hf hx))
 case indexAddr t x n =>
  simp only [cOp] at hc
  split at hc <;> first | (cases hc; done) | skip
  · rename_i e hu
    obtain ⟨i, hi, h2⟩ := bindP hc
    split at h2 <;> first | (cases h2; done) | skip
    rename_i hs
    cases h2
    simp only [opX, List.all_cons, List.all_nil, Bool.and_true, Bool.and_eq_true] at hx
    exact .mk (fun O hO => by simp only [execOp, hO]) (iadrD_sound hu hi hs he (cX_sound hr hf hx.1) (cX_sound hr hf hx.2))
  · rename_i l e hu
    obtain ⟨i, hi, h2⟩ := bindP hc
    split at h2 <;> first | (cases h2; done) | skip
    cases h2
    simp only [opX, List.all_cons, List.all_nil, Bool.and_true, Bool.and_eq_true] at hx
    exact .mk (fun O hO => by simp only [execOp, hO]) (iadrAD_sound hu hi he (cX_sound hr hf hx.1) (cX_sound hr hf hx.2))
 case load t x =>
  simp only [cOp] at hc
  split at hc
  · rename_i hg
    obtain ⟨i, hi, h2⟩ := bindP hc
    obtain ⟨d0, hd0⟩ := underlying_agg hg
    cases h2
    simp only [opX, List.all_cons, List.all_nil, Bool.and_true] at hx
    exact .mk (fun O hO => by simp only [execOp, hO]) (ldD_sound hr hd0 hi (by rw [hg]; exact he) (cX_sound hr hf hx))
  · rename_i hg
    obtain ⟨d0, hd0, h2⟩ := bindP hc
    obtain ⟨i, hi⟩ := info_of_underlying hd0
    cases h2
    have hg' : isAggT P t = false := by simpa using hg
    simp only [opX, List.all_cons, List.all_nil, Bool.and_true] at hx
    exact .mk (fun O hO => by simp only [execOp, hO]) (ldD_sound hr hd0 hi (by rw [hg']; exact he) (cX_sound hr hf hx))
 case nilCheck x =>
  cases hc
  simp only [opX, List.all_cons, List.all_nil, Bool.and_true] at hx
  have hv := cX_sound hr hf hx
  simp only [evP, nilcD] at he
  split at he <;> first | (cases he; done) | skip
  all_goals rename_i e; rw [e] at hv; cases he
  · exact ⟨_, fun O hO => by simp only [execOp, hO, hv.ptr_inv]; rfl, .ptr _ _⟩
  · obtain ⟨a', vs, h1, h2⟩ := hv.cptr_inv
    exact ⟨_, fun O hO => by simp only [execOp, hO, h1]; rfl, h2.vr⟩
  · generalize hev : a.eval x = vv at hv
    cases hv
    exact ⟨_, fun O hO => by simp only [execOp, hO, hev]; rfl, .func _ _ _ _ _ ‹_› ‹_› ‹_› ‹_›⟩
  · generalize hev : a.eval x = vv at hv
    cases hv
    exact ⟨_, fun O hO => by simp only [execOp, hO, hev]; rfl, .iface _ _ _ ‹_›⟩
 case makeInterface t x =>
  simp only [cOp] at hc
  split at hc <;> first | (cases hc; done) | skip
  rename_i d0 hn hu
  cases hc
  simp only [opX, List.all_cons, List.all_nil, Bool.and_true] at hx
  simp only [evP, Option.some.injEq] at he
  subst he
  refine .mk (s := Instr.makeInterface t (a.eval x)) (fun O hO => by simp only [execOp, hO]) ⟨.iface t (a.eval x), ?_, .iface _ _ _ (cX_sound hr hf hx)⟩
  simp only [Instr.makeInterface, Sem.run_bind, run_underlying hu, Result.andThen_ok]
  cases d0 <;> first | rfl | (exact absurd hu (by intro h; exact hn _ h))
 case makeFunc fn fst cap =>
  cases hc
  simp only [opX, List.all_append, Bool.and_eq_true] at hx
  simp only [evP, Option.some.injEq, List.map_map] at he
  subst he
  obtain ⟨h1, h2⟩ := vr_map hr hf fst hx.1
  obtain ⟨h3, h4⟩ := vr_map hr hf cap hx.2
  exact .mk (s := Instr.makeFunc fn (fst.map a.eval) (cap.map a.eval)) (fun O hO => by simp only [execOp, hO]) ⟨_, rfl, .func _ _ _ _ _ h1 h3 h2 h4⟩
 case call c =>
  simp only [cOp] at hc
  split at hc
  · split at hc <;> first | (cases hc; done) | skip
    rename_i hcal _ _ x t ha ht
    have hargs : c.args = #[x] := by rw [← Array.toList_inj]; exact ha
    have htys : c.argTypes = #[t] := by rw [← Array.toList_inj]; exact ht
    have hex : ∀ d, (∃ v, (Builtin.len_ #[t] 0 #[a.eval x]).run P w = .ok v w ∧ VR w H Z v d) → Yv P w H Z a.eval (.call c) d := by
     rintro d ⟨v, h1, h2⟩
     refine ⟨v, fun O hO => ?_, h2⟩
     have h1' : (Builtin.len_ #[t] O.type #[a.eval x]).run P w = .ok v w := h1
     simp only [execOp, hO, resolve, hcal, hargs, htys, List.map_toArray, List.map_cons, List.map_nil, invoke, builtin, Sem.run_bind, Sem.run_pure, Result.andThen_ok, h1']
    split at hc
    · rename_i hu
      cases hc
      simp only [opX, List.all_cons, List.all_nil, Bool.and_true] at hx
      exact hex _ (lenS_sound hu he (cX_sound hr hf hx))
    · rename_i e hu
      cases hc
      simp only [opX, List.all_cons, List.all_nil, Bool.and_true] at hx
      exact hex _ (lenL_sound hu he (cX_sound hr hf hx))
    · rename_i n e hu
      cases hc
      simp only [evP, XV, Option.some.injEq] at he
      subst he
      exact hex _ ⟨.int .i64 n, by simp [Builtin.len_, run_underlying hu, goInt], .int _ _⟩
    · cases hc; cases he
  · split at hc <;> first | (cases hc; done) | skip
    rename_i hcal _ x y ha
    cases hc
    have hargs : c.args = #[x, y] := by rw [← Array.toList_inj]; exact ha
    simp only [opX, List.all_cons, List.all_nil, Bool.and_true, Bool.and_eq_true] at hx
    have h1 := cX_sound hr hf hx.1
    have h2 := cX_sound hr hf hx.2
    simp only [evP] at he
    split at he <;> cases he
    rename_i e1 e2
    rw [e1] at h1; rw [e2] at h2
    refine ⟨_, fun O hO => ?_, .int _ _⟩
    simp only [execOp, hO, resolve, hcal, hargs, List.map_toArray, List.map_cons, List.map_nil, h1.int_inv, h2.int_inv, invoke, builtin, Sem.run_bind, Sem.run_pure, Result.andThen_ok]
    rfl
  · split at hc <;> first | (cases hc; done) | skip
    rename_i hcal _ x y ha
    cases hc
    have hargs : c.args = #[x, y] := by rw [← Array.toList_inj]; exact ha
    simp only [opX, List.all_cons, List.all_nil, Bool.and_true, Bool.and_eq_true] at hx
    have h1 := cX_sound hr hf hx.1
    have h2 := cX_sound hr hf hx.2
    simp only [evP] at he
    split at he <;> cases he
    rename_i e1 e2
    rw [e1] at h1; rw [e2] at h2
    refine ⟨_, fun O hO => ?_, .int _ _⟩
    simp only [execOp, hO, resolve, hcal, hargs, List.map_toArray, List.map_cons, List.map_nil, h1.int_inv, h2.int_inv, invoke, builtin, Sem.run_bind, Sem.run_pure, Result.andThen_ok]
    rfl
  · split at hc <;> first | (cases hc; done) | skip
    split at hc
    · obtain ⟨_, _, hc⟩ := bindP hc
      obtain ⟨_, _, hc⟩ := bindP hc
      split at hc <;> cases hc
      cases he
    · obtain ⟨_, _, hc⟩ := bindP hc
      obtain ⟨_, _, hc⟩ := bindP hc
      split at hc <;> cases hc
      cases he
    · cases hc; cases he
  all_goals (cases hc; cases he)
 case build t ps =>
  simp only [cOp] at hc
  split at hc <;> first | (cases hc; done) | skip
  · rename_i fs hu
    obtain ⟨z, hz, hc⟩ := bindP hc
    obtain ⟨pl, hpl, hc⟩ := bindP hc
    obtain ⟨l, hl, hc⟩ := bindP hc
    cases hc
    simp only [evP] at he
    cases hb : bldD (XV G fr) l z.1 with
    | none => rw [hb] at he; cases he
    | some cs =>
      rw [hb] at he
      cases he
      obtain ⟨i, z0, hi, hz0, hz1, hz2, hz3⟩ := zeroT_sound hz
      obtain ⟨g1, g2⟩ := cParts_sound _ _ hl
      have hrl := zero_RL (w := w) (H := H) (Z := Z) hz3
      rw [hz1] at hrl
      have hx' := List.all_eq_true.1 hx
      obtain ⟨arr', k1, k2⟩ := fill_sound (w := w) (H := H) (Z := Z) (place := (pl[·]?)) (fr := fr) (G := G) (ρ := a.eval) ps.toList l z0.cells z.1 cs g1 (fun j p q e1 e2 => by
       obtain ⟨m1, m2⟩ := g2 j p q e1 e2
       refine ⟨m1, ?_⟩
       have hm : q.2.2 ∈ l.map (·.2.2) := List.mem_map_of_mem (f := fun q : Nat × Nat × X => q.2.2) (List.mem_of_getElem? e2)
       have := hx' _ hm
       rw [m2] at this ⊢
       exact cX_sound hr hf this) hrl hb
      refine .mk (s := Instr.build t (ps.map fun p => (p.1, a.eval p.2))) (fun O hO => by simp only [execOp, hO]) ⟨.agg arr', ?_, .agg _ _ k2.size k2.one k2.val⟩
      refine run_build w t _ _ ?_
      unfold placesT at hpl
      simp only [Program.built, hi, hu, hz0, hpl, Array.toList_map]
      rw [← k1]
      congr 1
      funext n
      simp
  · rename_i n e hu
    obtain ⟨z, hz, hc⟩ := bindP hc
    obtain ⟨i, hi, hc⟩ := bindP hc
    cases hc
    simp only [evP] at he
    cases hb : bldD (XV G fr) (ps.toList.map fun p => (p.1 * i.size, i.size, cX p.2)) z.1 with
    | none => rw [hb] at he; cases he
    | some cs =>
      rw [hb] at he
      cases he
      obtain ⟨i0, z0, hi0, hz0, hz1, hz2, hz3⟩ := zeroT_sound hz
      have hrl := zero_RL (w := w) (H := H) (Z := Z) hz3
      rw [hz1] at hrl
      obtain ⟨arr', k1, k2⟩ := fill_sound (w := w) (H := H) (Z := Z) (place := fun n => some (n * i.size, i.size)) (fr := fr) (G := G) (ρ := a.eval) ps.toList _ z0.cells z.1 cs (by simp) (fun j p q e1 e2 => by
       rw [List.getElem?_map, e1] at e2
       cases e2
       refine ⟨rfl, cX_sound hr hf ?_⟩
       have : cX p.2 ∈ (ps.toList.map fun p => ((p.1 * i.size, i.size, cX p.2) : Nat × Nat × X)).map (·.2.2) := List.mem_map.2 ⟨_, List.mem_map.2 ⟨p, List.mem_of_getElem? e1, rfl⟩, rfl⟩
       exact List.all_eq_true.1 hx _ this) hrl hb
      refine .mk (s := Instr.build t (ps.map fun p => (p.1, a.eval p.2))) (fun O hO => by simp only [execOp, hO]) ⟨.agg arr', ?_, .agg _ _ k2.size k2.one k2.val⟩
      refine run_build w t _ _ ?_
      simp only [Program.built, hi0, hu, hz0, hi, Array.toList_map, k1]
 case slice t x lo hi m3 =>
  have opt : ∀ (o : Option Operand), (∀ y ∈ o.toList.map cX, XOk N y = true) → (o.map a.eval = none ↔ (o.map cX).map (XV G fr) = none) ∧ ∀ v e, o.map a.eval = some v → (o.map cX).map (XV G fr) = some e → VR w H Z v e := by
   intro o ho
   cases o with
   | none => exact ⟨by simp, fun v e h => by cases h⟩
   | some y =>
     refine ⟨by simp, fun v e h1 h2 => ?_⟩
     cases h1; cases h2
     exact cX_sound hr hf (ho _ (by simp))
  simp only [cOp] at hc
  split at hc
  · rename_i hu
    cases hc
    have hx' := List.all_eq_true.1 hx
    simp only [opX] at hx'
    obtain ⟨a1, a2⟩ := opt lo (fun y hy => hx' y (by cases lo <;> simp_all))
    obtain ⟨b1, b2⟩ := opt hi (fun y hy => hx' y (by cases hi <;> simp_all))
    exact .mk (fun O hO => by simp only [execOp, hO]; rfl) (slcSD_sound hu he (cX_sound hr hf (hx' _ (by simp))) a1 a2 b1 b2)
  · rename_i m3 _ _ e hu
    obtain ⟨i, hi', hc⟩ := bindP hc
    cases hc
    have hx' := List.all_eq_true.1 hx
    simp only [opX] at hx'
    obtain ⟨a1, a2⟩ := opt lo (fun y hy => hx' y (by cases lo <;> simp_all))
    obtain ⟨b1, b2⟩ := opt hi (fun y hy => hx' y (by cases hi <;> simp_all))
    obtain ⟨c1, c2⟩ := opt m3 (fun y hy => hx' y (by cases m3 <;> simp_all))
    exact .mk (fun O hO => by simp only [execOp, hO]) (slcD_sound hu hi' he (cX_sound hr hf (hx' _ (by simp))) a1 a2 b1 b2 c1 c2)
  · rename_i n e hu
    obtain ⟨i, hi', hc⟩ := bindP hc
    cases hc
    have hx' := List.all_eq_true.1 hx
    simp only [opX] at hx'
    obtain ⟨a1, a2⟩ := opt lo (fun y hy => hx' y (by cases lo <;> simp_all))
    obtain ⟨b1, b2⟩ := opt hi (fun y hy => hx' y (by cases hi <;> simp_all))
    exact .mk (fun O hO => by simp only [execOp, hO]; rfl) (slcAD_sound hu hi' he (cX_sound hr hf (hx' _ (by simp))) a1 a2 b1 b2)
  · cases hc; cases he
 case alloc t => obtain ⟨_, _, hc⟩ := bindP hc; cases hc; cases he
 case store t x y => obtain ⟨_, _, hc⟩ := bindP hc; cases hc; cases he
 case buildSlice t n ps =>
  simp only [cOp] at hc
  split at hc <;> first | (cases hc; done) | skip
  obtain ⟨_, _, hc⟩ := bindP hc
  split at hc <;> cases hc
  cases he
 all_goals (cases hc; cases he)
end
open Go Go.RowKit
section
variable {P : Program} {G : Gl} {N : Nat} {w : World} {H : Hp} {Z : Zn}
theorem OR.ext {w' : World} {H' : Hp} {Z' : Zn} (hr : HR G w H Z) (h : Ext w H Z w' H' Z') {b : Nat} (hb : w'.heap[b]? = w.heap[b]?) {o : DO} (ho : OR w H Z b o) : OR w' H' Z' b o := by
 cases o with
 | cells cs ty =>
   obtain ⟨arr, fz, h1, h2, h3, h4, h5⟩ := ho
   exact ⟨arr, fz, hb.trans h1, h2, h3, h4, fun j v d e1 e2 => (h5 j v d e1 e2).ext hr h⟩
 | front f sz ty =>
   obtain ⟨arr, fz, cap, h1, h2⟩ := ho
   exact ⟨arr, fz, cap, hb.trans h1, h2⟩
 | mapo es =>
   obtain ⟨ms, cl, h1, h2, h3⟩ := ho
   exact ⟨ms, cl, hb.trans h1, h2, fun j m e e1 e2 => ⟨(h3 j m e e1 e2).1.ext hr h, (h3 j m e e1 e2).2.ext hr h⟩⟩
 | raw o => exact ⟨hb.trans ho.1, ho.2⟩
 | loop N ps as bd fr st pend =>
   obtain ⟨L, h1, h2, h3, h4, h5, h6, h7, h8⟩ := ho
   exact ⟨L, hb.trans h1, h2, h3, h4, h5, h6, h7, fun t ht => (h8 t ht).ext hr h⟩
theorem HR.free (hr : HR G w H Z) {b : Nat} (hb : w.heap.size ≤ b) : H b = none := by
 cases e : H b with
 | none => rfl
 | some o => exact absurd (hr.dom b o e).1 (by omega)
theorem HR.apart (hr : HR G w H Z) {b : Nat} (hb : Z b) : H b = none := by
 cases e : H b with
 | none => rfl
 | some o => exact absurd hb (hr.dom b o e).2
theorem upd_self (H : Hp) (b : Nat) (o : Option DO) : H.upd b o b = o := by simp [Hp.upd]
theorem upd_ne (H : Hp) {b x : Nat} (o : Option DO) (h : x ≠ b) : H.upd b o x = H x := by simp [Hp.upd, h]
structure Same (w w' : World) : Prop where
 os : w'.os = w.os
 tape : w'.tape = w.tape
 output : w'.output = w.output
 heap : w'.heap = w.heap
theorem Same.ext (hr : HR G w H Z) {w' : World} (h : Same w w') : Ext w H Z w' H Z where
 size := by rw [h.heap]; exact Nat.le_refl _
 os := h.os
 tape := h.tape
 output := h.output
 imm := fun b hb => ⟨hb, hr.apart hb, by rw [h.heap]⟩
 priv := fun b _ hz hh => ⟨hz, hh, by rw [h.heap]⟩
 frt := fun b f sz ty hb _ => ⟨f, hb, Nat.le_refl _⟩
 pre := fun b f sz ty hb => ⟨.inr ⟨f, Nat.le_refl _, hb⟩, fun arr fz ha => ⟨arr, fz, by rw [h.heap]; exact ha, rfl, fun _ _ => rfl⟩⟩
theorem HR.of_ext (hr : HR G w H Z) {w' : World} (hx : Ext w H Z w' H Z) (hb : ∀ b o, H b = some o → w'.heap[b]? = w.heap[b]?) : HR G w' H Z where
 dom := fun b o e => ⟨Nat.lt_of_lt_of_le (hr.dom b o e).1 hx.size, (hr.dom b o e).2⟩
 zlt := fun b e => Nat.lt_of_lt_of_le (hr.zlt b e) hx.size
 obj := fun b o e => (hr.obj b o e).ext hr hx (hb b o e)
 glob := fun g cs e => (hr.glob g cs e).ext hr hx
theorem alloc_tracked (hr : HR G w H Z) (ob : Obj) (o : DO) (hor : ∀ (hx : Ext w H Z (w.alloc ob) (H.upd w.heap.size (some o)) Z), OR (w.alloc ob) (H.upd w.heap.size (some o)) Z w.heap.size o) :
  HR G (w.alloc ob) (H.upd w.heap.size (some o)) Z ∧ Ext w H Z (w.alloc ob) (H.upd w.heap.size (some o)) Z := by
 have hold : ∀ k, k < w.heap.size → (w.alloc ob).heap[k]? = w.heap[k]? := fun k hk => Below.heap_alloc w ob k hk
 have hx : Ext w H Z (w.alloc ob) (H.upd w.heap.size (some o)) Z := {
  size := by simp
  os := rfl
  tape := rfl
  output := rfl
  imm := fun b hb => by
   have hlt := hr.zlt b hb
   exact ⟨hb, by rw [upd_ne _ _ (by omega)]; exact hr.apart hb, hold b hlt⟩
  priv := fun b hlt hz hh => ⟨hz, by rw [upd_ne _ _ (by omega)]; exact hh, hold b hlt⟩
  frt := fun b f sz ty hb hlt => ⟨f, by rw [upd_ne _ _ (by omega)] at hb; exact hb, Nat.le_refl _⟩
  pre := fun b f sz ty hb => by
   have hlt := (hr.dom b _ hb).1
   exact ⟨.inr ⟨f, Nat.le_refl _, by rw [upd_ne _ _ (by omega)]; exact hb⟩, fun arr fz ha => ⟨arr, fz, (hold b hlt).trans ha, rfl, fun _ _ => rfl⟩⟩ }
 refine ⟨⟨fun b o' e => ?_, fun b hb => ?_, fun b o' e => ?_, fun g cs e => (hr.glob g cs e).ext hr hx⟩, hx⟩
 · by_cases h : b = w.heap.size
   · subst h; exact ⟨by simp, fun hz => absurd (hr.zlt _ hz) (by omega)⟩
   · rw [upd_ne _ _ h] at e
     have := hr.dom b o' e
     exact ⟨by simp; omega, this.2⟩
 · have := hr.zlt b hb; simp; omega
 · by_cases h : b = w.heap.size
   · subst h
     rw [upd_self] at e
     cases e
     exact hor hx
   · rw [upd_ne _ _ h] at e
     exact (hr.obj b o' e).ext hr hx (hold b (hr.dom b o' e).1)
theorem alloc_imm (hr : HR G w H Z) (ob : Obj) : HR G (w.alloc ob) H (fun b => Z b ∨ b = w.heap.size) ∧ Ext w H Z (w.alloc ob) H (fun b => Z b ∨ b = w.heap.size) := by
 have hold : ∀ k, k < w.heap.size → (w.alloc ob).heap[k]? = w.heap[k]? := fun k hk => Below.heap_alloc w ob k hk
 have hx : Ext w H Z (w.alloc ob) H (fun b => Z b ∨ b = w.heap.size) := {
  size := by simp
  os := rfl
  tape := rfl
  output := rfl
  imm := fun b hb => ⟨.inl hb, hr.apart hb, hold b (hr.zlt b hb)⟩
  priv := fun b hlt hz hh => ⟨fun h => h.elim hz (fun e => by omega), hh, hold b hlt⟩
  frt := fun b f sz ty hb _ => ⟨f, hb, Nat.le_refl _⟩
  pre := fun b f sz ty hb => ⟨.inr ⟨f, Nat.le_refl _, hb⟩, fun arr fz ha => ⟨arr, fz, (hold b (hr.dom b _ hb).1).trans ha, rfl, fun _ _ => rfl⟩⟩ }
 refine ⟨⟨fun b o' e => ?_, fun b hb => ?_, fun b o' e => (hr.obj b o' e).ext hr hx (hold b (hr.dom b o' e).1), fun g cs e => (hr.glob g cs e).ext hr hx⟩, hx⟩
 · have := hr.dom b o' e
   exact ⟨by simp; omega, fun h => h.elim this.2 (fun e' => by omega)⟩
 · rcases hb with hb | rfl
   · have := hr.zlt b hb; simp; omega
   · simp
def setArr (w : World) (b : Nat) (arr : Array Value) (ty : TypeId) (fz : Nat × Nat) : World := { w with heap := w.heap.setIfInBounds b (.cells arr ty fz) }
theorem setArr_self {b : Nat} {arr : Array Value} {ty : TypeId} {fz : Nat × Nat} (h : b < w.heap.size) : (setArr w b arr ty fz).heap[b]? = some (.cells arr ty fz) := by
 simp [setArr, h]
theorem setArr_ne {b k : Nat} {arr : Array Value} {ty : TypeId} {fz : Nat × Nat} (h : k ≠ b) : (setArr w b arr ty fz).heap[k]? = w.heap[k]? := by
 simp [setArr, Ne.symm h]
theorem setArr_size {b : Nat} {arr : Array Value} {ty : TypeId} {fz : Nat × Nat} : (setArr w b arr ty fz).heap.size = w.heap.size := by simp [setArr]
theorem setCell_setArr {b i : Nat} {cur : Array Value} {ty : TypeId} {fz : Nat × Nat} {v : Value} (hg : w.heap[b]? = some (.cells cur ty fz)) :
  w.setCell ⟨b, i, none⟩ v = setArr w b (cur.setIfInBounds i v) ty fz := by
 have hb : b < w.heap.size := (Array.getElem?_eq_some_iff.1 hg).1
 unfold World.setCell setArr
 congr 1
 apply Array.ext_getElem?
 intro j
 rw [Array.getElem?_modify, Array.getElem?_setIfInBounds]
 by_cases e : b = j
 · subst e; rw [hg]; simp [hb]
 · simp [e]
theorem setArr_same {b : Nat} {cur : Array Value} {ty : TypeId} {fz : Nat × Nat} (hg : w.heap[b]? = some (.cells cur ty fz)) : setArr w b cur ty fz = w := by
 have hb : b < w.heap.size := (Array.getElem?_eq_some_iff.1 hg).1
 unfold setArr
 have e : w.heap.setIfInBounds b (.cells cur ty fz) = w.heap := by
  apply Array.ext_getElem?
  intro j
  rw [Array.getElem?_setIfInBounds]
  by_cases e : b = j
  · subst e; rw [if_pos rfl, if_pos hb, hg]
  · simp [e]
 rw [e]
theorem put_list {l : List Value} {n : Nat} {v : Value} {vs : List Value} (h : n < l.length) :
  (l.set n v).take (n + 1) ++ vs ++ (l.set n v).drop (n + 1 + vs.length) = l.take n ++ v :: vs ++ l.drop (n + (vs.length + 1)) := by
 have h1 : (l.set n v).take (n + 1) = l.take n ++ [v] := by
  rw [List.set_eq_take_append_cons_drop, if_pos h, List.take_append, List.length_take, List.take_of_length_le (by simp; omega)]
  have : n + 1 - min n l.length = 1 := by omega
  rw [this]; rfl
 have h2 : (l.set n v).drop (n + 1 + vs.length) = l.drop (n + (vs.length + 1)) := by
  rw [List.drop_set_of_lt (by omega)]
  congr 1; omega
 rw [h1, h2]; simp
theorem run_storeCells' {b o : Nat} {ty : TypeId} {fz : Nat × Nat} : ∀ (vs : List Value) (i : Nat) (cur : Array Value) (w : World), w.heap[b]? = some (.cells cur ty fz) → (fz.2 ≤ o ∨ cur.size ≤ fz.1) →
  o + i + vs.length ≤ cur.size → (∀ v ∈ vs, v.oneCell' = true) →
  (storeCells ⟨b, o, none⟩ vs i).run P w = .ok () (setArr w b (cur.toList.take (o + i) ++ vs ++ cur.toList.drop (o + i + vs.length)).toArray ty fz)
 | [], i, cur, w, hg, _, _, _ => by
   have e := setArr_same hg
   simp [storeCells, e]
 | v :: vs, i, cur, w, hg, hf, hl, h1 => by
   have hb : b < w.heap.size := (Array.getElem?_eq_some_iff.1 hg).1
   simp only [List.length_cons] at hl
   have hc : w.cell? ⟨b, o + i, none⟩ = some (cur[o + i]'(by omega)) := by
    rw [cell_of_row w b _ cur ty fz hg]; simp
   have hz : w.frozen? ⟨b, o + i, none⟩ = false := by
    simp only [World.frozen?, hg]
    rcases hf with hf | hf
    · simp; intro _; omega
    · simp; intro _; omega
   have ha : (⟨b, o, none⟩ : Addr).add i = ⟨b, o + i, none⟩ := add_off rfl i
   have hst : (store ((⟨b, o, none⟩ : Addr).add i) v).run P w = .ok () (setArr w b (cur.setIfInBounds (o + i) v) ty fz) := by
    rw [run_store P w _ v _ (h1 v (by simp)), ha, hc]
    simp [hz, setCell_setArr hg]
   have ih := run_storeCells' vs (i + 1) (cur.setIfInBounds (o + i) v) (setArr w b (cur.setIfInBounds (o + i) v) ty fz) (setArr_self hb) (by simpa using hf) (by simp; omega) (fun x hx => h1 x (by simp [hx]))
   simp only [storeCells, Sem.run_bind, hst, Result.andThen_ok, ih]
   congr 1
   simp only [setArr, Array.setIfInBounds_setIfInBounds, Array.toList_setIfInBounds, List.length_cons]
   rw [show o + (i + 1) = o + i + 1 from rfl, put_list (by simpa using (by omega : o + i < cur.size))]
theorem set_cells (hr : HR G w H Z) {b : Nat} {cs cs' : List DV} {ty : TypeId} (hb : H b = some (.cells cs ty)) {arr arr' : Array Value} {fz : Nat × Nat} (hw : w.heap[b]? = some (.cells arr ty fz))
  (hfz : fz.2 = 0 ∨ arr.size ≤ fz.1) (hs : arr'.size = arr.size) (hl : arr'.size = cs'.length) (ho : ∀ (j : Nat) (v : Value), arr'[j]? = some v → v.oneCell' = true)
  (hv : ∀ (j : Nat) (v : Value) (d : DV), arr'[j]? = some v → cs'[j]? = some d → VR w H Z v d) :
  HR G (setArr w b arr' ty fz) (H.upd b (some (.cells cs' ty))) Z ∧ Ext w H Z (setArr w b arr' ty fz) (H.upd b (some (.cells cs' ty))) Z := by
 have hd := hr.dom b _ hb
 have hne : ∀ k, Z k → k ≠ b := fun k hk e => hd.2 (e ▸ hk)
 have hx : Ext w H Z (setArr w b arr' ty fz) (H.upd b (some (.cells cs' ty))) Z := {
  size := by rw [setArr_size]; exact Nat.le_refl _
  os := rfl
  tape := rfl
  output := rfl
  imm := fun k hk => ⟨hk, by rw [upd_ne _ _ (hne k hk)]; exact hr.apart hk, setArr_ne (hne k hk)⟩
  priv := fun k hk hz hh => by
   have : k ≠ b := fun e => by rw [e, hb] at hh; cases hh
   exact ⟨hz, by rw [upd_ne _ _ this]; exact hh, setArr_ne this⟩
  frt := fun k f sz ty' hk _ => by
   by_cases e : k = b
   · subst e; rw [upd_self] at hk; cases hk
   · rw [upd_ne _ _ e] at hk; exact ⟨f, hk, Nat.le_refl _⟩
  pre := fun k f sz ty' hk => by
   have e : k ≠ b := fun e => by rw [e, hb] at hk; cases hk
   exact ⟨.inr ⟨f, Nat.le_refl _, by rw [upd_ne _ _ e]; exact hk⟩, fun a f' ha => ⟨a, f', (setArr_ne e).trans ha, rfl, fun _ _ => rfl⟩⟩ }
 refine ⟨⟨fun k o e => ?_, fun k hk => by rw [setArr_size]; exact hr.zlt k hk, fun k o e => ?_, fun g cs e => (hr.glob g cs e).ext hr hx⟩, hx⟩
 · rw [setArr_size]
   by_cases h : k = b
   · subst h; exact hd
   · rw [upd_ne _ _ h] at e; exact hr.dom k o e
 · by_cases h : k = b
   · subst h
     rw [upd_self] at e
     cases e
     exact ⟨arr', fz, setArr_self hd.1, by rw [hs]; exact hfz, hl, ho, fun j v d e1 e2 => (hv j v d e1 e2).ext hr hx⟩
   · rw [upd_ne _ _ h] at e
     exact (hr.obj k o e).ext hr hx (setArr_ne h)
def Gone (H H' : Hp) (Z : Zn) : Zn := fun b => Z b ∨ ((∃ o, H b = some o) ∧ H' b = none)
def SubH (H' H : Hp) : Prop := ∀ b o, H' b = some o → H b = some o
theorem SubH.refl (H : Hp) : SubH H H := fun _ _ h => h
theorem Safe.drop {H' : Hp} (hs : SubH H' H) {b i : Nat} (h : Safe H Z b i) : Safe H' (Gone H H' Z) b i := by
 rcases h with h | ⟨f, sz, ty, h1, h2⟩
 · exact .inl (.inl h)
 · cases e : H' b with
   | none => exact .inl (.inr ⟨⟨_, h1⟩, e⟩)
   | some o =>
     have := hs b o e
     rw [h1] at this
     cases this
     exact .inr ⟨f, sz, ty, e, h2⟩
theorem TagOK.drop {H' : Hp} (hs : SubH H' H) {A : Option Addr} {n c sz : Nat} {tag : Option (Nat × Nat)} (h : TagOK w H A n c sz tag) : TagOK w H' A n c sz tag :=
 fun b off e => ⟨(h b off e).1, fun f sz' ty hf => (h b off e).2 f sz' ty (hs b _ hf)⟩
theorem VR.drop {H' : Hp} (hs : SubH H' H) {v : Value} {d : DV} (h : VR w H Z v d) : VR w H' (Gone H H' Z) v d := by
 induction h with
 | junk v => exact .junk v
 | bool b => exact .bool b
 | int k n => exact .int k n
 | str s l e => exact .str s l e
 | ptr b off => exact .ptr b off
 | nilp => exact .nilp
 | cptr a cs vs h1 hc ho _ ih => exact .cptr a cs vs h1 (fun j hj => ⟨(hc j hj).1, (hc j hj).2.drop hs⟩) ho ih
 | lst A n c sz cs tag vs h1 h2 hc ho _ ht ih =>
   exact .lst A n c sz cs tag vs h1 h2 (fun j hj => let ⟨a, e1, e2, c1, c2⟩ := hc j hj; ⟨a, e1, e2, c1, c2.drop hs⟩) ho ih (ht.drop hs)
 | nils => exact .nils
 | zc A => exact .zc A
 | win b off n cap h => exact .win b off n cap h
 | func fn first cap df dc e1 e2 _ _ ih1 ih2 => exact .func fn first cap df dc e1 e2 ih1 ih2
 | nilfn => exact .nilfn
 | iface t v d _ ih => exact .iface t v d ih
 | nilif => exact .nilif
 | agg vs cs e ho _ ih => exact .agg vs cs e ho ih
 | tup vs cs e _ ih => exact .tup vs cs e ih
 | mapr b => exact .mapr b
 | nilmap => exact .nilmap
theorem OR.drop {H' : Hp} (hs : SubH H' H) {b : Nat} {o : DO} (h : OR w H Z b o) : OR w H' (Gone H H' Z) b o := by
 cases o with
 | cells cs ty =>
   obtain ⟨arr, fz, h1, h2, h3, h4, h5⟩ := h
   exact ⟨arr, fz, h1, h2, h3, h4, fun j v d e1 e2 => (h5 j v d e1 e2).drop hs⟩
 | front f sz ty => exact h
 | mapo es =>
   obtain ⟨ms, cl, h1, h2, h3⟩ := h
   exact ⟨ms, cl, h1, h2, fun j m e e1 e2 => ⟨(h3 j m e e1 e2).1.drop hs, (h3 j m e e1 e2).2.drop hs⟩⟩
 | raw o => exact h
 | loop N ps as bd fr st pend =>
   obtain ⟨L, h1, h2, h3, h4, h5, h6, h7, h8⟩ := h
   exact ⟨L, h1, h2, h3, h4, h5, h6, h7, fun t ht => (h8 t ht).drop hs⟩
theorem HR.drop {H' : Hp} (hr : HR G w H Z) (hs : SubH H' H) : HR G w H' (Gone H H' Z) where
 dom := fun b o e => ⟨(hr.dom b o (hs b o e)).1, fun h => h.elim (hr.dom b o (hs b o e)).2 (fun h => by rw [e] at h; cases h.2)⟩
 zlt := fun b h => h.elim (hr.zlt b) (fun ⟨⟨o, ho⟩, _⟩ => (hr.dom b o ho).1)
 obj := fun b o e => (hr.obj b o (hs b o e)).drop hs
 glob := fun g cs e => (hr.glob g cs e).drop hs
theorem Ext.drop {w' : World} {He H' : Hp} {Ze : Zn} (hx : Ext w H Z w' He Ze) (hs : SubH H' He) : Ext w H Z w' H' (Gone He H' Ze) where
 size := hx.size
 os := hx.os
 tape := hx.tape
 output := hx.output
 imm := fun b hb => by
  obtain ⟨h1, h2, h3⟩ := hx.imm b hb
  refine ⟨.inl h1, ?_, h3⟩
  cases e : H' b with
  | none => rfl
  | some o => rw [hs b o e] at h2; cases h2
 priv := fun b hb hz hh => by
  obtain ⟨h1, h2, h3⟩ := hx.priv b hb hz hh
  refine ⟨fun h => h.elim h1 (fun ⟨⟨o, ho⟩, _⟩ => by rw [h2] at ho; cases ho), ?_, h3⟩
  cases e : H' b with
  | none => rfl
  | some o => rw [hs b o e] at h2; cases h2
 frt := fun b f sz ty hb hlt => hx.frt b f sz ty (hs b _ hb) hlt
 pre := fun b f sz ty hb => by
  obtain ⟨h1, h2⟩ := hx.pre b f sz ty hb
  refine ⟨?_, h2⟩
  rcases h1 with h1 | ⟨f', l, h1⟩
  · exact .inl (.inl h1)
  · cases e : H' b with
    | none => exact .inl (.inr ⟨⟨_, h1⟩, e⟩)
    | some o =>
      have := hs b o e
      rw [h1] at this
      cases this
      exact .inr ⟨f', l, rfl⟩
end
def Fr.put (fr : Fr) (dst : Option Nat) (d : DV) : Fr := match dst with
 | some t => fr.set t d
 | none => fr
structure Ins where
 dst : Option Nat
 g : Option (Nat × Bool)
 op : OP
theorem wh {α : Type} {a b : α} (h : a = b := by conv => lhs; whnf) : a = b := h
theorem hbb {A : Prop} (h : A := by first | assumption | exact Hp.upd_same | (rw [Hp.upd_ne (by first | assumption | omega)]; first | assumption | exact Hp.upd_same | (rw [Hp.upd_ne (by first | assumption | omega)]; first | assumption | exact Hp.upd_same))) : A := h
theorem stb {A : Prop} (h : A := by (repeat (refine stabAll_cons rfl (by first | exact Stab.ld rfl (by first | assumption | exact Hp.upd_same | (rw [Hp.upd_ne (by first | assumption | omega)]; first | assumption | exact Hp.upd_same | (rw [Hp.upd_ne (by first | assumption | omega)]; first | assumption | exact Hp.upd_same))) rfl rfl | exact Stab.of rfl rfl) ?_)); exact stabAll_nil) : A := h
abbrev ci (n : Int) : X := .c (.int .i64 n)
abbrev ji (n : Nat) (o : OP) : Ins := ⟨some n, none, o⟩
abbrev jn (o : OP) : Ins := ⟨none, none, o⟩
abbrev jg (n t : Nat) (b : Bool) (o : OP) : Ins := ⟨some n, some (t, b), o⟩

def cIns (P : Program) (N : Nat) (ops : Array Oper) (o : Oper) : Option Ins :=
 (cOp P o.op).bind fun op =>
  if (opX op).all (XOk N) then
   match o.guard with
   | none => some ⟨o.dst, none, op⟩
   | some (j, want) => ((ops[j]?).bind (·.dst)).bind fun t => if t < N then some ⟨o.dst, some (t, want), op⟩ else none
  else none
section
variable (P : Program) (G : Gl) (r : Option Nat) (N : Nat)
def CPost (Kr Kp : DV → Hp → Prop) (w : World) (H : Hp) (Z : Zn) : Ending → World → Prop
 | .returned v, w' => ∃ d H' Z', Kr d H' ∧ VR w' H' Z' v d ∧ HR G w' H' Z' ∧ Ext w H Z w' H' Z'
 | .panicked ch, w' => ∃ v d H' Z', ch = [{ v, recovered := false }] ∧ Kp d H' ∧ VR w' H' Z' v d ∧ HR G w' H' Z' ∧ Ext w H Z w' H' Z'
 | .outgrown, _ => False
def CALL (f : FuncId) (ds : List DV) (H : Hp) (Kr Kp : DV → Hp → Prop) : Prop :=
 (∃ fn, P.funcs[f]? = some fn ∧ fn.body.isNone = false ∧ (fn.name == "runtime.NumGoroutine") = false) ∧
 ∀ w Z (vs : Array Value), HR G w H Z → vs.size = ds.length → (∀ (j : Nat) (v : Value) (d : DV), vs[j]? = some v → ds[j]? = some d → VR w H Z v d) →
  Calls P f vs w (CPost G Kr Kp w H Z)
def ST (op : OP) (dst : Option Nat) (K : Fr → Hp → Prop) (Q : EX → Fr → Hp → Prop) (fr : Fr) (H : Hp) : Prop :=
 ∀ n base w Z a (o : Oper), cOp P o.op = some op → (opX op).all (XOk N) = true → o.dst = dst → HR G w H Z → FR w H Z base N a fr →
  o.wpIn (Wd r) n P a w (fun a' w' => ∃ fr' H' Z', K fr' H' ∧ HR G w' H' Z' ∧ FR w' H' Z' base N a' fr' ∧ Ext w H Z w' H' Z') (Post G N Q base w H Z)
def RG (l : List Ins) (Q : EX → Fr → Hp → Prop) (fr : Fr) (H : Hp) : Prop :=
 ∀ n base w Z a (ops : Array Oper) (is : List Nat), is.map (fun i => (ops[i]?).bind (cIns P N ops)) = l.map some → HR G w H Z → FR w H Z base N a fr →
  wpOpsIn (Wd r) n P ops (Post G N Q base w H Z) is a w
variable {P G r N}
theorem FR.putO {w : World} {H : Hp} {Z : Zn} {base : BS} {a : Act} {fr : Fr} (hf : FR w H Z base N a fr) {dst : Option Nat} {v : Value} {d : DV} (hv : VR w H Z v d) : FR w H Z base N (a.put dst v) (fr.put dst d) := by
 cases dst with
 | none => exact hf
 | some t => exact hf.put hv
theorem about_wide (o : Oper) (w : World) (ρ : Operand → Value) : ∀ f, o.about P w ρ = some f → (Wd r).fn f := fun _ _ => trivial
theorem wpIn_value {o : Oper} {a : Act} {w w' : World} {n : Nat} {next : Act → World → Prop} {Q : Exit → Act → World → Prop} {v : Value} (hd : ∀ c, o.op ≠ .defer c)
  (h : (execOp a.eval o).run P w = .ok (.value v) w') (hk : next (a.put o.dst v) w') : o.wpIn (Wd r) n P a w next Q := by
 refine ⟨about_wide o w _, ?_⟩
 rw [Oper.semAt_eq _ _ _ hd, h]
 exact hk
theorem wpIn_skipped {o : Oper} {a : Act} {w w' : World} {n : Nat} {next : Act → World → Prop} {Q : Exit → Act → World → Prop} (hd : ∀ c, o.op ≠ .defer c)
  (h : (execOp a.eval o).run P w = .ok .skip w') (hk : next (a.put o.dst undef) w') : o.wpIn (Wd r) n P a w next Q := by
 refine ⟨about_wide o w _, ?_⟩
 rw [Oper.semAt_eq _ _ _ hd, h]
 exact hk
theorem cOp_defer {o : Op} {op : OP} (h : cOp P o = some op) (hne : ∀ o, op ≠ .oth o) : ∀ c, o ≠ .defer c := by
 intro c e
 subst e
 cases h
 exact hne _ rfl
theorem evP_oth {G : Gl} {fr : Fr} {H : Hp} {op : OP} {d : DV} (h : evP G fr H op = some d) : ∀ o, op ≠ .oth o := by
 intro o e; subst e; cases h
theorem ST.pure {op : OP} {dst : Option Nat} {K : Fr → Hp → Prop} {Q : EX → Fr → Hp → Prop} {fr : Fr} {H : Hp} {d : DV} (h : evP G fr H op = some d) (hk : K (fr.put dst d) H) :
  ST P G r N op dst K Q fr H := by
 intro n base w Z a o hc hx hd hr hf
 obtain ⟨v, h1, h2⟩ := evP_sound hr hf hc hx h
 refine wpIn_value (cOp_defer hc (evP_oth h)) (h1 o rfl) ⟨_, H, Z, hk, hr, ?_, .refl hr⟩
 rw [hd]
 exact hf.putO h2
theorem RG.nil {Q : EX → Fr → Hp → Prop} {fr : Fr} {H : Hp} (h : Q .normal fr H) : RG P G r N [] Q fr H := by
 intro n base w Z a ops is hl hr hf
 have : is = [] := by simpa using hl
 subst this
 exact ⟨.normal, fr, H, Z, h, trivial, hr, hf, .refl hr⟩
theorem wpOpsIn_mono {F : Fence} {n : Nat} {ops : Array Oper} {Q Q' : Exit → Act → World → Prop} (hq : ∀ e a w, Q e a w → Q' e a w) : ∀ (is : List Nat) (a : Act) (w : World), wpOpsIn F n P ops Q is a w → wpOpsIn F n P ops Q' is a w
 | [], a, w, h => hq _ _ _ h
 | i :: is, a, w, h => by
   simp only [wpOpsIn] at h ⊢
   cases ho : ops[i]? with
   | none => simp only [ho] at h ⊢; exact wpOpsIn_mono hq is a w h
   | some o =>
     simp only [ho] at h ⊢
     split at h
     · rename_i hw
       rw [if_pos hw]
       refine ⟨h.1, ?_⟩
       have h2 := h.2
       revert h2
       have key : ∀ R, o.uponIn F n P a (wpOpsIn F n P ops Q is) Q R → o.uponIn F n P a (wpOpsIn F n P ops Q' is) Q' R := by
        intro R hR
        unfold Oper.uponIn at hR ⊢
        split at hR
        · exact wpOpsIn_mono hq is _ _ hR
        · exact wpOpsIn_mono hq is _ _ hR
        · exact wpOpsIn_mono hq is _ _ hR
        · refine ⟨hR.1, hR.2.mono fun e w' he => ?_⟩
          cases e with
          | returned v => exact wpOpsIn_mono hq is _ _ he
          | panicked c => exact hq _ _ _ he
          | outgrown => obtain ⟨a', w', hh⟩ := he; exact ⟨a', w', hq _ _ _ hh⟩
        · exact ⟨hR.1, hR.2.mono fun v w' he => wpOpsIn_mono hq is _ _ he⟩
        · refine ⟨hR.1, hR.2.mono fun e w' he => ?_⟩
          cases e with
          | returned v => exact wpOpsIn_mono hq is _ _ he
          | panicked c => exact hq _ _ _ he
          | outgrown => obtain ⟨a', w', hh⟩ := he; exact ⟨a', w', hq _ _ _ hh⟩
        · exact hq _ _ _ hR
        · exact hR
       exact key _
     · rename_i hw
       rw [if_neg hw]
       exact ⟨h.1, wpOpsIn_mono hq is _ _ h.2⟩
theorem wpIn_next {o : Oper} {F : Fence} {n : Nat} {a : Act} {w : World} {K K' : Act → World → Prop} {Q : Exit → Act → World → Prop} (h : o.wpIn F n P a w K Q) (hk : ∀ a w, K a w → K' a w) : o.wpIn F n P a w K' Q :=
 Oper.wpIn_mono hk h
theorem RG.cons_shape {i : Ins} {l : List Ins} {ops : Array Oper} {is : List Nat} (hl : is.map (fun i => (ops[i]?).bind (cIns P N ops)) = (i :: l).map some) :
  ∃ j rest o, is = j :: rest ∧ ops[j]? = some o ∧ cIns P N ops o = some i ∧ rest.map (fun i => (ops[i]?).bind (cIns P N ops)) = l.map some := by
 cases is with
 | nil => simp at hl
 | cons j rest =>
   simp only [List.map_cons, List.cons.injEq] at hl
   cases ho : ops[j]? with
   | none => rw [ho] at hl; simp at hl
   | some o => rw [ho] at hl; exact ⟨j, rest, o, rfl, ho, hl.1, hl.2⟩
theorem cIns_shape {ops : Array Oper} {o : Oper} {i : Ins} (h : cIns P N ops o = some i) : cOp P o.op = some i.op ∧ (opX i.op).all (XOk N) = true ∧ o.dst = i.dst ∧
  ((o.guard = none ∧ i.g = none) ∨ ∃ j want t, o.guard = some (j, want) ∧ (ops[j]?).bind (·.dst) = some t ∧ t < N ∧ i.g = some (t, want)) := by
 unfold cIns at h
 cases hc : cOp P o.op with
 | none => rw [hc] at h; cases h
 | some op =>
   rw [hc] at h
   simp only [Option.bind_some] at h
   split at h
   · rename_i hx
     split at h
     · cases h; exact ⟨rfl, hx, rfl, .inl ⟨‹_›, rfl⟩⟩
     · rename_i j want hg
       cases ht : (ops[j]?).bind (·.dst) with
       | none => rw [ht] at h; cases h
       | some t =>
         rw [ht] at h
         simp only [Option.bind_some] at h
         split at h
         · rename_i hlt; cases h; exact ⟨rfl, hx, rfl, .inr ⟨j, want, t, hg, ht, hlt, rfl⟩⟩
         · cases h
   · cases h
theorem FR.lt {w : World} {H : Hp} {Z : Zn} {base : BS} {a : Act} {fr : Fr} (hf : FR w H Z base N a fr) {t : Nat} (ht : t < N) {b : Bool} (h : fr t = .bool b) : a.tmps[t]? = some (.bool b) := by
 have := hf.vals t ht
 rw [h] at this
 have hb := this.bool_inv
 have hs : t < a.tmps.size := by rw [hf.size]; exact ht
 rw [Array.getElem?_eq_getElem hs]
 simpa [Array.getD, hs] using hb
theorem RG.step {i : Ins} {l : List Ins} {Q : EX → Fr → Hp → Prop} {fr : Fr} {H : Hp} (hg : i.g = none ∨ ∃ t b, i.g = some (t, b) ∧ fr t = .bool b)
  (h : ST P G r N i.op i.dst (RG P G r N l Q) Q fr H) : RG P G r N (i :: l) Q fr H := by
 intro n base w Z a ops is hl hr hf
 obtain ⟨j, rest, o, rfl, ho, hc, hrest⟩ := RG.cons_shape hl
 obtain ⟨h1, h2, h3, h4⟩ := cIns_shape hc
 have hw : Region.wanted o (yielded ops a.tmps) = true := by
  rcases h4 with ⟨h4, _⟩ | ⟨j', want, t, e1, e2, e3, e4⟩
  · simp [Region.wanted, h4]
  · rcases hg with hg | ⟨t', b, g1, g2⟩
    · rw [hg] at e4; cases e4
    · rw [g1] at e4
      cases e4
      have ha := hf.lt e3 g2
      simp [Region.wanted, e1, yielded, e2, ha]
 simp only [wpOpsIn, ho, hw, if_true]
 refine wpIn_next (h n base w Z a o h1 h2 h3 hr hf) fun a' w' ⟨fr', H', Z', k1, k2, k3, k4⟩ => ?_
 exact wpOpsIn_mono (fun _ _ _ hp => hp.before k4) _ _ _ (k1 n base w' Z' a' ops rest hrest k2 k3)
theorem RG.gno {i : Ins} {l : List Ins} {Q : EX → Fr → Hp → Prop} {fr : Fr} {H : Hp} {t : Nat} {b : Bool} (hg : i.g = some (t, b)) (ht : fr t = .bool (!b))
  (h : RG P G r N l Q (fr.put i.dst (.tup [])) H) : RG P G r N (i :: l) Q fr H := by
 intro n base w Z a ops is hl hr hf
 obtain ⟨j, rest, o, rfl, ho, hc, hrest⟩ := RG.cons_shape hl
 obtain ⟨h1, h2, h3, h4⟩ := cIns_shape hc
 have hw : Region.wanted o (yielded ops a.tmps) = false := by
  rcases h4 with ⟨_, h4⟩ | ⟨j', want, t', e1, e2, e3, e4⟩
  · rw [hg] at h4; cases h4
  · rw [hg] at e4
    cases e4
    have ha := hf.lt e3 ht
    cases b <;> simp [Region.wanted, e1, yielded, e2, ha]
 simp only [wpOpsIn, ho, hw, Bool.false_eq_true, if_false]
 refine ⟨about_wide o w _, ?_⟩
 exact h n base w Z _ ops rest hrest hr (by rw [h3]; exact hf.putO (.tup #[] [] rfl (fun j v d h => by simp at h)))
theorem RG.gun {i : Ins} {l : List Ins} {Q : EX → Fr → Hp → Prop} {fr : Fr} {H : Hp} {t : Nat} {b : Bool} (hg : i.g = some (t, b)) {ds : List DV} (ht : fr t = .tup ds)
  (h : RG P G r N l Q (fr.put i.dst (.tup [])) H) : RG P G r N (i :: l) Q fr H := by
 intro n base w Z a ops is hl hr hf
 obtain ⟨j, rest, o, rfl, ho, hc, hrest⟩ := RG.cons_shape hl
 obtain ⟨h1, h2, h3, h4⟩ := cIns_shape hc
 have hw : Region.wanted o (yielded ops a.tmps) = false := by
  rcases h4 with ⟨_, h4⟩ | ⟨j', want, t', e1, e2, e3, e4⟩
  · rw [hg] at h4; cases h4
  · rw [hg] at e4
    cases e4
    have ha := hf.vals _ e3
    rw [ht] at ha
    obtain ⟨vs, hv, _⟩ := ha.tup_inv
    have hlt : a.tmps[t]? = none ∨ ∃ vs, a.tmps[t]? = some (.tuple vs) := by
     cases e5 : a.tmps[t]? with
     | none => exact .inl rfl
     | some x => right; refine ⟨vs, ?_⟩; rw [Array.getD_eq_getD_getElem?, e5] at hv; exact congrArg some hv
    rcases hlt with hlt | ⟨vs, hlt⟩ <;> simp [Region.wanted, e1, yielded, e2, hlt]
 simp only [wpOpsIn, ho, hw, Bool.false_eq_true, if_false]
 refine ⟨about_wide o w _, ?_⟩
 exact h n base w Z _ ops rest hrest hr (by rw [h3]; exact hf.putO (.tup #[] [] rfl (fun j v d h => by simp at h)))
theorem CALL.in {f : FuncId} {ds : List DV} {H : Hp} {Kr Kp : DV → Hp → Prop} (h : CALL P G f ds H Kr Kp) {n : Nat} {w : World} {Z : Zn} {vs : Array Value} (hr : HR G w H Z) (hs : vs.size = ds.length)
  (hv : ∀ (j : Nat) (v : Value) (d : DV), vs[j]? = some v → ds[j]? = some d → VR w H Z v d) : CallsIn (Wd r) n P f vs w (CPost G Kr Kp w H Z) := by
 have := (callsIn_wide (n := n)).2 (h.2 w Z vs hr hs hv)
 exact this
theorem CALL.mono {f : FuncId} {ds : List DV} {H : Hp} {Kr Kp Kr' Kp' : DV → Hp → Prop} (h : CALL P G f ds H Kr Kp) (h1 : ∀ d H', Kr d H' → Kr' d H') (h2 : ∀ d H', Kp d H' → Kp' d H') : CALL P G f ds H Kr' Kp' :=
 ⟨h.1, fun w Z vs hr hs hv => (h.2 w Z vs hr hs hv).mono fun e w' he => by
  cases e with
  | returned v => obtain ⟨d, H', Z', k, rest⟩ := he; exact ⟨d, H', Z', h1 _ _ k, rest⟩
  | panicked ch => obtain ⟨v, d, H', Z', e1, k, rest⟩ := he; exact ⟨v, d, H', Z', e1, h2 _ _ k, rest⟩
  | outgrown => exact he⟩
theorem run_enter {f : FuncId} {fn : Func} (hf : P.funcs[f]? = some fn) (hb : fn.body.isNone = false) (hn : (fn.name == "runtime.NumGoroutine") = false) (args : Array Value) (w : World) :
  (callFunc f args).run P w = .ok (.enter f args) w := by
 simp only [callFunc, Sem.run_bind, run_program, Result.andThen_ok, hf, hn, hb, Bool.false_eq_true, if_false, Sem.run_pure]
theorem wpIn_call {o : Oper} {n : Nat} {base : BS} {w : World} {Z : Zn} {a : Act} {K : Fr → Hp → Prop} {Q : EX → Fr → Hp → Prop} {fr : Fr} {H : Hp} {f : FuncId} {vs : Array Value} {ds : List DV} {dst : Option Nat}
  (hd : ∀ c, o.op ≠ .defer c) (hdst : o.dst = dst) (hr : HR G w H Z) (hf : FR w H Z base N a fr)
  (hrun : (∃ fn, P.funcs[f]? = some fn ∧ fn.body.isNone = false ∧ (fn.name == "runtime.NumGoroutine") = false) → (execOp a.eval o).run P w = .ok (.enter f vs) w) (hs : vs.size = ds.length)
  (hv : ∀ (j : Nat) (v : Value) (d : DV), vs[j]? = some v → ds[j]? = some d → VR w H Z v d)
  (h : CALL P G f ds H (fun d H' => K (fr.put dst d) H') (fun d H' => Q (.panic d) fr H')) :
  o.wpIn (Wd r) n P a w (fun a' w' => ∃ fr' H' Z', K fr' H' ∧ HR G w' H' Z' ∧ FR w' H' Z' base N a' fr' ∧ Ext w H Z w' H' Z') (Post G N Q base w H Z) := by
 refine ⟨about_wide o w _, ?_⟩
 rw [Oper.semAt_eq _ _ _ hd, hrun h.1]
 refine ⟨fun h => by simp [Wd, Fence.wide] at h, (h.in hr hs hv).mono fun e w' he => ?_⟩
 cases e with
 | returned v =>
   obtain ⟨d, H', Z', k, hvd, hr', hx⟩ := he
   exact ⟨_, H', Z', k, hr', by rw [hdst]; exact (hf.ext hr hx).putO hvd, hx⟩
 | panicked ch =>
   obtain ⟨v, d, H', Z', e1, k, hvd, hr', hx⟩ := he
   exact ⟨.panic d, fr, H', Z', k, ⟨v, e1, hvd⟩, hr', hf.ext hr hx, hx⟩
 | outgrown => exact he.elim
theorem cOp_call {o : Op} {f : FuncId} {xs : List X} (h : cOp P o = some (.call f xs)) : ∃ c, o = .call c ∧ c.callee = .value (.func f) ∧ xs = c.args.toList.map cX := by
 cases o
 case call c =>
  simp only [cOp] at h
  split at h
  case h_6 => cases h; exact ⟨c, rfl, ‹_›, rfl⟩
  all_goals exfalso
  all_goals repeat' (first | (rw [Option.bind_eq_some_iff] at h; obtain ⟨_, _, h⟩ := h) | split at h)
  all_goals cases h
 all_goals (first | (cases h; done) | skip)
 all_goals exfalso
 all_goals simp only [cOp] at h
 all_goals repeat' (first | (rw [Option.bind_eq_some_iff] at h; obtain ⟨_, _, h⟩ := h) | split at h)
 all_goals cases h
theorem ST.call {f : FuncId} {xs : List X} {dst : Option Nat} {K : Fr → Hp → Prop} {Q : EX → Fr → Hp → Prop} {fr : Fr} {H : Hp}
  (h : CALL P G f (xs.map (XV G fr)) H (fun d H' => K (fr.put dst d) H') (fun d H' => Q (.panic d) fr H')) : ST P G r N (.call f xs) dst K Q fr H := by
 intro n base w Z a o hc hx hd hr hf
 obtain ⟨c, ho, hcal, rfl⟩ := cOp_call hc
 obtain ⟨h1, h2⟩ := vr_map hr hf c.args (by simpa [opX] using hx)
 refine wpIn_call (vs := c.args.map a.eval) (by rw [ho]; intro c e; cases e) hd hr hf (fun ⟨fn, e1, e2, e3⟩ => ?_) (by simp) (by simpa [List.map_map, Function.comp_def] using h2) h
 simp only [execOp, ho, resolve, hcal, Act.eval, Deferred.ofValue, Sem.run_bind, Sem.run_pure, Result.andThen_ok, invoke, Array.empty_append, Array.append_empty]
 exact run_enter e1 e2 e3 _ _
end
end Go.Run
