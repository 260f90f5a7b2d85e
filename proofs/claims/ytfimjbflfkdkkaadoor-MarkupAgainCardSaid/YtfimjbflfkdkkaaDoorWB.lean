/- One operation after the other; calls; new blocks. -/
import Derived.Test.YtfimjbflfkdkkaaDoorWA
import Derived.OrdersIn
/- Steps of worlds: a new block, a store, what is let go. -/
namespace Go.Run
open Go Go.RowKit

section
variable {P : Program} {G : Gl} {N : Nat} {w : World} {H : Hp} {Z : Zn}

theorem OR.ext {w' : World} {H' : Hp} {Z' : Zn} (hr : HR G w H Z) (h : Ext w H Z w' H' Z') {b : Nat} (hb : w'.heap[b]? = w.heap[b]?) {o : DO} (ho : OR w H Z b o) : OR w' H' Z' b o := by
  cases o with
  | cells cs ty =>
    obtain ⟨arr, fz, h1, h2, h3, h4, h5⟩ := ho
    exact ⟨arr, fz, hb.trans h1, h2, h3, h4, fun j v d e1 e2 => (h5 j v d e1 e2).ext hr h⟩
  | front f sz ty =>
    obtain ⟨arr, fz, cap, h1, h2⟩ := ho
    exact ⟨arr, fz, cap, hb.trans h1, h2⟩
  | mapo es =>
    obtain ⟨ms, cl, h1, h2, h3⟩ := ho
    exact ⟨ms, cl, hb.trans h1, h2, fun j m e e1 e2 => ⟨(h3 j m e e1 e2).1.ext hr h, (h3 j m e e1 e2).2.ext hr h⟩⟩
  | raw o => exact ⟨hb.trans ho.1, ho.2⟩
  | loop N ps as bd fr st pend =>
    obtain ⟨L, h1, h2, h3, h4, h5, h6, h7, h8⟩ := ho
    exact ⟨L, hb.trans h1, h2, h3, h4, h5, h6, h7, fun t ht => (h8 t ht).ext hr h⟩

theorem HR.free (hr : HR G w H Z) {b : Nat} (hb : w.heap.size ≤ b) : H b = none := by
  cases e : H b with
  | none => rfl
  | some o => exact absurd (hr.dom b o e).1 (by omega)

theorem HR.apart (hr : HR G w H Z) {b : Nat} (hb : Z b) : H b = none := by
  cases e : H b with
  | none => rfl
  | some o => exact absurd hb (hr.dom b o e).2

theorem upd_self (H : Hp) (b : Nat) (o : Option DO) : H.upd b o b = o := by simp [Hp.upd]
theorem upd_ne (H : Hp) {b x : Nat} (o : Option DO) (h : x ≠ b) : H.upd b o x = H x := by simp [Hp.upd, h]

/-- What a step of the world may be that a draw or a mark is: no block turns. -/
structure Same (w w' : World) : Prop where
  os : w'.os = w.os
  tape : w'.tape = w.tape
  output : w'.output = w.output
  heap : w'.heap = w.heap

theorem Same.ext (hr : HR G w H Z) {w' : World} (h : Same w w') : Ext w H Z w' H Z where
  size := by rw [h.heap]; exact Nat.le_refl _
  os := h.os
  tape := h.tape
  output := h.output
  imm := fun b hb => ⟨hb, hr.apart hb, by rw [h.heap]⟩
  priv := fun b _ hz hh => ⟨hz, hh, by rw [h.heap]⟩
  frt := fun b f sz ty hb _ => ⟨f, hb, Nat.le_refl _⟩
  pre := fun b f sz ty hb => ⟨.inr ⟨f, Nat.le_refl _, hb⟩, fun arr fz ha => ⟨arr, fz, by rw [h.heap]; exact ha, rfl, fun _ _ => rfl⟩⟩

theorem HR.of_ext (hr : HR G w H Z) {w' : World} (hx : Ext w H Z w' H Z) (hb : ∀ b o, H b = some o → w'.heap[b]? = w.heap[b]?) : HR G w' H Z where
  dom := fun b o e => ⟨Nat.lt_of_lt_of_le (hr.dom b o e).1 hx.size, (hr.dom b o e).2⟩
  zlt := fun b e => Nat.lt_of_lt_of_le (hr.zlt b e) hx.size
  obj := fun b o e => (hr.obj b o e).ext hr hx (hb b o e)
  glob := fun g cs e => (hr.glob g cs e).ext hr hx

/-- A new block, tracked. -/
theorem alloc_tracked (hr : HR G w H Z) (ob : Obj) (o : DO) (hor : ∀ (hx : Ext w H Z (w.alloc ob) (H.upd w.heap.size (some o)) Z), OR (w.alloc ob) (H.upd w.heap.size (some o)) Z w.heap.size o) :
    HR G (w.alloc ob) (H.upd w.heap.size (some o)) Z ∧ Ext w H Z (w.alloc ob) (H.upd w.heap.size (some o)) Z := by
  have hold : ∀ k, k < w.heap.size → (w.alloc ob).heap[k]? = w.heap[k]? := fun k hk => Below.heap_alloc w ob k hk
  have hx : Ext w H Z (w.alloc ob) (H.upd w.heap.size (some o)) Z := {
    size := by simp
    os := rfl
    tape := rfl
    output := rfl
    imm := fun b hb => by
      have hlt := hr.zlt b hb
      exact ⟨hb, by rw [upd_ne _ _ (by omega)]; exact hr.apart hb, hold b hlt⟩
    priv := fun b hlt hz hh => ⟨hz, by rw [upd_ne _ _ (by omega)]; exact hh, hold b hlt⟩
    frt := fun b f sz ty hb hlt => ⟨f, by rw [upd_ne _ _ (by omega)] at hb; exact hb, Nat.le_refl _⟩
    pre := fun b f sz ty hb => by
      have hlt := (hr.dom b _ hb).1
      exact ⟨.inr ⟨f, Nat.le_refl _, by rw [upd_ne _ _ (by omega)]; exact hb⟩, fun arr fz ha => ⟨arr, fz, (hold b hlt).trans ha, rfl, fun _ _ => rfl⟩⟩ }
  refine ⟨⟨fun b o' e => ?_, fun b hb => ?_, fun b o' e => ?_, fun g cs e => (hr.glob g cs e).ext hr hx⟩, hx⟩
  · by_cases h : b = w.heap.size
    · subst h; exact ⟨by simp, fun hz => absurd (hr.zlt _ hz) (by omega)⟩
    · rw [upd_ne _ _ h] at e
      have := hr.dom b o' e
      exact ⟨by simp; omega, this.2⟩
  · have := hr.zlt b hb; simp; omega
  · by_cases h : b = w.heap.size
    · subst h
      rw [upd_self] at e
      cases e
      exact hor hx
    · rw [upd_ne _ _ h] at e
      exact (hr.obj b o' e).ext hr hx (hold b (hr.dom b o' e).1)

/-- A new block that is never written again. -/
theorem alloc_imm (hr : HR G w H Z) (ob : Obj) : HR G (w.alloc ob) H (fun b => Z b ∨ b = w.heap.size) ∧ Ext w H Z (w.alloc ob) H (fun b => Z b ∨ b = w.heap.size) := by
  have hold : ∀ k, k < w.heap.size → (w.alloc ob).heap[k]? = w.heap[k]? := fun k hk => Below.heap_alloc w ob k hk
  have hx : Ext w H Z (w.alloc ob) H (fun b => Z b ∨ b = w.heap.size) := {
    size := by simp
    os := rfl
    tape := rfl
    output := rfl
    imm := fun b hb => ⟨.inl hb, hr.apart hb, hold b (hr.zlt b hb)⟩
    priv := fun b hlt hz hh => ⟨fun h => h.elim hz (fun e => by omega), hh, hold b hlt⟩
    frt := fun b f sz ty hb _ => ⟨f, hb, Nat.le_refl _⟩
    pre := fun b f sz ty hb => ⟨.inr ⟨f, Nat.le_refl _, hb⟩, fun arr fz ha => ⟨arr, fz, (hold b (hr.dom b _ hb).1).trans ha, rfl, fun _ _ => rfl⟩⟩ }
  refine ⟨⟨fun b o' e => ?_, fun b hb => ?_, fun b o' e => (hr.obj b o' e).ext hr hx (hold b (hr.dom b o' e).1), fun g cs e => (hr.glob g cs e).ext hr hx⟩, hx⟩
  · have := hr.dom b o' e
    exact ⟨by simp; omega, fun h => h.elim this.2 (fun e' => by omega)⟩
  · rcases hb with hb | rfl
    · have := hr.zlt b hb; simp; omega
    · simp

/-- A world in which one row's cells are others. -/
def setArr (w : World) (b : Nat) (arr : Array Value) (ty : TypeId) (fz : Nat × Nat) : World := { w with heap := w.heap.setIfInBounds b (.cells arr ty fz) }

theorem setArr_self {b : Nat} {arr : Array Value} {ty : TypeId} {fz : Nat × Nat} (h : b < w.heap.size) : (setArr w b arr ty fz).heap[b]? = some (.cells arr ty fz) := by
  simp [setArr, h]
theorem setArr_ne {b k : Nat} {arr : Array Value} {ty : TypeId} {fz : Nat × Nat} (h : k ≠ b) : (setArr w b arr ty fz).heap[k]? = w.heap[k]? := by
  simp [setArr, Ne.symm h]
theorem setArr_size {b : Nat} {arr : Array Value} {ty : TypeId} {fz : Nat × Nat} : (setArr w b arr ty fz).heap.size = w.heap.size := by simp [setArr]

theorem setCell_setArr {b i : Nat} {cur : Array Value} {ty : TypeId} {fz : Nat × Nat} {v : Value} (hg : w.heap[b]? = some (.cells cur ty fz)) :
    w.setCell ⟨b, i, none⟩ v = setArr w b (cur.setIfInBounds i v) ty fz := by
  have hb : b < w.heap.size := (Array.getElem?_eq_some_iff.1 hg).1
  unfold World.setCell setArr
  congr 1
  apply Array.ext_getElem?
  intro j
  rw [Array.getElem?_modify, Array.getElem?_setIfInBounds]
  by_cases e : b = j
  · subst e; rw [hg]; simp [hb]
  · simp [e]

theorem setArr_same {b : Nat} {cur : Array Value} {ty : TypeId} {fz : Nat × Nat} (hg : w.heap[b]? = some (.cells cur ty fz)) : setArr w b cur ty fz = w := by
  have hb : b < w.heap.size := (Array.getElem?_eq_some_iff.1 hg).1
  unfold setArr
  have e : w.heap.setIfInBounds b (.cells cur ty fz) = w.heap := by
    apply Array.ext_getElem?
    intro j
    rw [Array.getElem?_setIfInBounds]
    by_cases e : b = j
    · subst e; rw [if_pos rfl, if_pos hb, hg]
    · simp [e]
  rw [e]

theorem put_list {l : List Value} {n : Nat} {v : Value} {vs : List Value} (h : n < l.length) :
    (l.set n v).take (n + 1) ++ vs ++ (l.set n v).drop (n + 1 + vs.length) = l.take n ++ v :: vs ++ l.drop (n + (vs.length + 1)) := by
  have h1 : (l.set n v).take (n + 1) = l.take n ++ [v] := by
    rw [List.set_eq_take_append_cons_drop, if_pos h, List.take_append, List.length_take, List.take_of_length_le (by simp; omega)]
    have : n + 1 - min n l.length = 1 := by omega
    rw [this]; rfl
  have h2 : (l.set n v).drop (n + 1 + vs.length) = l.drop (n + (vs.length + 1)) := by
    rw [List.drop_set_of_lt (by omega)]
    congr 1; omega
  rw [h1, h2]; simp

theorem run_storeCells' {b o : Nat} {ty : TypeId} {fz : Nat × Nat} : ∀ (vs : List Value) (i : Nat) (cur : Array Value) (w : World), w.heap[b]? = some (.cells cur ty fz) → (fz.2 ≤ o ∨ cur.size ≤ fz.1) →
    o + i + vs.length ≤ cur.size → (∀ v ∈ vs, v.oneCell' = true) →
    (storeCells ⟨b, o, none⟩ vs i).run P w = .ok () (setArr w b (cur.toList.take (o + i) ++ vs ++ cur.toList.drop (o + i + vs.length)).toArray ty fz)
  | [], i, cur, w, hg, _, _, _ => by
    have e := setArr_same hg
    simp [storeCells, e]
  | v :: vs, i, cur, w, hg, hf, hl, h1 => by
    have hb : b < w.heap.size := (Array.getElem?_eq_some_iff.1 hg).1
    simp only [List.length_cons] at hl
    have hc : w.cell? ⟨b, o + i, none⟩ = some (cur[o + i]'(by omega)) := by
      rw [cell_of_row w b _ cur ty fz hg]; simp
    have hz : w.frozen? ⟨b, o + i, none⟩ = false := by
      simp only [World.frozen?, hg]
      rcases hf with hf | hf
      · simp; intro _; omega
      · simp; intro _; omega
    have ha : (⟨b, o, none⟩ : Addr).add i = ⟨b, o + i, none⟩ := add_off rfl i
    have hst : (store ((⟨b, o, none⟩ : Addr).add i) v).run P w = .ok () (setArr w b (cur.setIfInBounds (o + i) v) ty fz) := by
      rw [run_store P w _ v _ (h1 v (by simp)), ha, hc]
      simp [hz, setCell_setArr hg]
    have ih := run_storeCells' vs (i + 1) (cur.setIfInBounds (o + i) v) (setArr w b (cur.setIfInBounds (o + i) v) ty fz) (setArr_self hb) (by simpa using hf) (by simp; omega) (fun x hx => h1 x (by simp [hx]))
    simp only [storeCells, Sem.run_bind, hst, Result.andThen_ok, ih]
    congr 1
    simp only [setArr, Array.setIfInBounds_setIfInBounds, Array.toList_setIfInBounds, List.length_cons]
    rw [show o + (i + 1) = o + i + 1 from rfl, put_list (by simpa using (by omega : o + i < cur.size))]

/-- A tracked variable is written. -/
theorem set_cells (hr : HR G w H Z) {b : Nat} {cs cs' : List DV} {ty : TypeId} (hb : H b = some (.cells cs ty)) {arr arr' : Array Value} {fz : Nat × Nat} (hw : w.heap[b]? = some (.cells arr ty fz))
    (hfz : fz.2 = 0 ∨ arr.size ≤ fz.1) (hs : arr'.size = arr.size) (hl : arr'.size = cs'.length) (ho : ∀ (j : Nat) (v : Value), arr'[j]? = some v → v.oneCell' = true)
    (hv : ∀ (j : Nat) (v : Value) (d : DV), arr'[j]? = some v → cs'[j]? = some d → VR w H Z v d) :
    HR G (setArr w b arr' ty fz) (H.upd b (some (.cells cs' ty))) Z ∧ Ext w H Z (setArr w b arr' ty fz) (H.upd b (some (.cells cs' ty))) Z := by
  have hd := hr.dom b _ hb
  have hne : ∀ k, Z k → k ≠ b := fun k hk e => hd.2 (e ▸ hk)
  have hx : Ext w H Z (setArr w b arr' ty fz) (H.upd b (some (.cells cs' ty))) Z := {
    size := by rw [setArr_size]; exact Nat.le_refl _
    os := rfl
    tape := rfl
    output := rfl
    imm := fun k hk => ⟨hk, by rw [upd_ne _ _ (hne k hk)]; exact hr.apart hk, setArr_ne (hne k hk)⟩
    priv := fun k hk hz hh => by
      have : k ≠ b := fun e => by rw [e, hb] at hh; cases hh
      exact ⟨hz, by rw [upd_ne _ _ this]; exact hh, setArr_ne this⟩
    frt := fun k f sz ty' hk _ => by
      by_cases e : k = b
      · subst e; rw [upd_self] at hk; cases hk
      · rw [upd_ne _ _ e] at hk; exact ⟨f, hk, Nat.le_refl _⟩
    pre := fun k f sz ty' hk => by
      have e : k ≠ b := fun e => by rw [e, hb] at hk; cases hk
      exact ⟨.inr ⟨f, Nat.le_refl _, by rw [upd_ne _ _ e]; exact hk⟩, fun a f' ha => ⟨a, f', (setArr_ne e).trans ha, rfl, fun _ _ => rfl⟩⟩ }
  refine ⟨⟨fun k o e => ?_, fun k hk => by rw [setArr_size]; exact hr.zlt k hk, fun k o e => ?_, fun g cs e => (hr.glob g cs e).ext hr hx⟩, hx⟩
  · rw [setArr_size]
    by_cases h : k = b
    · subst h; exact hd
    · rw [upd_ne _ _ h] at e; exact hr.dom k o e
  · by_cases h : k = b
    · subst h
      rw [upd_self] at e
      cases e
      exact ⟨arr', fz, setArr_self hd.1, by rw [hs]; exact hfz, hl, ho, fun j v d e1 e2 => (hv j v d e1 e2).ext hr hx⟩
    · rw [upd_ne _ _ h] at e
      exact (hr.obj k o e).ext hr hx (setArr_ne h)

/-- What is let go of is never written again. -/
def Gone (H H' : Hp) (Z : Zn) : Zn := fun b => Z b ∨ ((∃ o, H b = some o) ∧ H' b = none)

def SubH (H' H : Hp) : Prop := ∀ b o, H' b = some o → H b = some o

theorem SubH.refl (H : Hp) : SubH H H := fun _ _ h => h

theorem Safe.drop {H' : Hp} (hs : SubH H' H) {b i : Nat} (h : Safe H Z b i) : Safe H' (Gone H H' Z) b i := by
  rcases h with h | ⟨f, sz, ty, h1, h2⟩
  · exact .inl (.inl h)
  · cases e : H' b with
    | none => exact .inl (.inr ⟨⟨_, h1⟩, e⟩)
    | some o =>
      have := hs b o e
      rw [h1] at this
      cases this
      exact .inr ⟨f, sz, ty, e, h2⟩

theorem TagOK.drop {H' : Hp} (hs : SubH H' H) {A : Option Addr} {n c sz : Nat} {tag : Option (Nat × Nat)} (h : TagOK w H A n c sz tag) : TagOK w H' A n c sz tag :=
  fun b off e => ⟨(h b off e).1, fun f sz' ty hf => (h b off e).2 f sz' ty (hs b _ hf)⟩

theorem VR.drop {H' : Hp} (hs : SubH H' H) {v : Value} {d : DV} (h : VR w H Z v d) : VR w H' (Gone H H' Z) v d := by
  induction h with
  | junk v => exact .junk v
  | bool b => exact .bool b
  | int k n => exact .int k n
  | str s l e => exact .str s l e
  | ptr b off => exact .ptr b off
  | nilp => exact .nilp
  | cptr a cs vs h1 hc ho _ ih => exact .cptr a cs vs h1 (fun j hj => ⟨(hc j hj).1, (hc j hj).2.drop hs⟩) ho ih
  | lst A n c sz cs tag vs h1 h2 hc ho _ ht ih =>
    exact .lst A n c sz cs tag vs h1 h2 (fun j hj => let ⟨a, e1, e2, c1, c2⟩ := hc j hj; ⟨a, e1, e2, c1, c2.drop hs⟩) ho ih (ht.drop hs)
  | nils => exact .nils
  | zc A => exact .zc A
  | win b off n cap h => exact .win b off n cap h
  | func fn first cap df dc e1 e2 _ _ ih1 ih2 => exact .func fn first cap df dc e1 e2 ih1 ih2
  | nilfn => exact .nilfn
  | iface t v d _ ih => exact .iface t v d ih
  | nilif => exact .nilif
  | agg vs cs e ho _ ih => exact .agg vs cs e ho ih
  | tup vs cs e _ ih => exact .tup vs cs e ih
  | mapr b => exact .mapr b
  | nilmap => exact .nilmap

theorem OR.drop {H' : Hp} (hs : SubH H' H) {b : Nat} {o : DO} (h : OR w H Z b o) : OR w H' (Gone H H' Z) b o := by
  cases o with
  | cells cs ty =>
    obtain ⟨arr, fz, h1, h2, h3, h4, h5⟩ := h
    exact ⟨arr, fz, h1, h2, h3, h4, fun j v d e1 e2 => (h5 j v d e1 e2).drop hs⟩
  | front f sz ty => exact h
  | mapo es =>
    obtain ⟨ms, cl, h1, h2, h3⟩ := h
    exact ⟨ms, cl, h1, h2, fun j m e e1 e2 => ⟨(h3 j m e e1 e2).1.drop hs, (h3 j m e e1 e2).2.drop hs⟩⟩
  | raw o => exact h
  | loop N ps as bd fr st pend =>
    obtain ⟨L, h1, h2, h3, h4, h5, h6, h7, h8⟩ := h
    exact ⟨L, h1, h2, h3, h4, h5, h6, h7, fun t ht => (h8 t ht).drop hs⟩

theorem HR.drop {H' : Hp} (hr : HR G w H Z) (hs : SubH H' H) : HR G w H' (Gone H H' Z) where
  dom := fun b o e => ⟨(hr.dom b o (hs b o e)).1, fun h => h.elim (hr.dom b o (hs b o e)).2 (fun h => by rw [e] at h; cases h.2)⟩
  zlt := fun b h => h.elim (hr.zlt b) (fun ⟨⟨o, ho⟩, _⟩ => (hr.dom b o ho).1)
  obj := fun b o e => (hr.obj b o (hs b o e)).drop hs
  glob := fun g cs e => (hr.glob g cs e).drop hs

theorem Ext.drop {w' : World} {He H' : Hp} {Ze : Zn} (hx : Ext w H Z w' He Ze) (hs : SubH H' He) : Ext w H Z w' H' (Gone He H' Ze) where
  size := hx.size
  os := hx.os
  tape := hx.tape
  output := hx.output
  imm := fun b hb => by
    obtain ⟨h1, h2, h3⟩ := hx.imm b hb
    refine ⟨.inl h1, ?_, h3⟩
    cases e : H' b with
    | none => rfl
    | some o => rw [hs b o e] at h2; cases h2
  priv := fun b hb hz hh => by
    obtain ⟨h1, h2, h3⟩ := hx.priv b hb hz hh
    refine ⟨fun h => h.elim h1 (fun ⟨⟨o, ho⟩, _⟩ => by rw [h2] at ho; cases ho), ?_, h3⟩
    cases e : H' b with
    | none => rfl
    | some o => rw [hs b o e] at h2; cases h2
  frt := fun b f sz ty hb hlt => hx.frt b f sz ty (hs b _ hb) hlt
  pre := fun b f sz ty hb => by
    obtain ⟨h1, h2⟩ := hx.pre b f sz ty hb
    refine ⟨?_, h2⟩
    rcases h1 with h1 | ⟨f', l, h1⟩
    · exact .inl (.inl h1)
    · cases e : H' b with
      | none => exact .inl (.inr ⟨⟨_, h1⟩, e⟩)
      | some o =>
        have := hs b o e
        rw [h1] at this
        cases this
        exact .inr ⟨f', l, rfl⟩
end
end Go.Run
/- One operation after the other; calls. -/
namespace Go.Run
open Go Go.RowKit

def Fr.put (fr : Fr) (dst : Option Nat) (d : DV) : Fr := match dst with
  | some t => fr.set t d
  | none => fr

structure Ins where
  dst : Option Nat
  g : Option (Nat × Bool)
  op : OP

def cIns (P : Program) (N : Nat) (ops : Array Oper) (o : Oper) : Option Ins :=
  (cOp P o.op).bind fun op =>
    if (opX op).all (XOk N) then
      match o.guard with
      | none => some ⟨o.dst, none, op⟩
      | some (j, want) => ((ops[j]?).bind (·.dst)).bind fun t => if t < N then some ⟨o.dst, some (t, want), op⟩ else none
    else none

section
variable (P : Program) (G : Gl) (r : Option Nat) (N : Nat)

def CPost (Kr Kp : DV → Hp → Prop) (w : World) (H : Hp) (Z : Zn) : Ending → World → Prop
  | .returned v, w' => ∃ d H' Z', Kr d H' ∧ VR w' H' Z' v d ∧ HR G w' H' Z' ∧ Ext w H Z w' H' Z'
  | .panicked ch, w' => ∃ v d H' Z', ch = [{ v, recovered := false }] ∧ Kp d H' ∧ VR w' H' Z' v d ∧ HR G w' H' Z' ∧ Ext w H Z w' H' Z'
  | .outgrown, _ => False

/-- What a call of a function answers, and what it leaves. -/
def CALL (f : FuncId) (ds : List DV) (H : Hp) (Kr Kp : DV → Hp → Prop) : Prop :=
  (∃ fn, P.funcs[f]? = some fn ∧ fn.body.isNone = false ∧ (fn.name == "runtime.NumGoroutine") = false) ∧
  ∀ w Z (vs : Array Value), HR G w H Z → vs.size = ds.length → (∀ (j : Nat) (v : Value) (d : DV), vs[j]? = some v → ds[j]? = some d → VR w H Z v d) →
    Calls P f vs w (CPost G Kr Kp w H Z)

/-- What one operation does. -/
def ST (op : OP) (dst : Option Nat) (K : Fr → Hp → Prop) (Q : EX → Fr → Hp → Prop) (fr : Fr) (H : Hp) : Prop :=
  ∀ n base w Z a (o : Oper), cOp P o.op = some op → (opX op).all (XOk N) = true → o.dst = dst → HR G w H Z → FR w H Z base N a fr →
    o.wpIn (Wd r) n P a w (fun a' w' => ∃ fr' H' Z', K fr' H' ∧ HR G w' H' Z' ∧ FR w' H' Z' base N a' fr' ∧ Ext w H Z w' H' Z') (Post G N Q base w H Z)

def RG (l : List Ins) (Q : EX → Fr → Hp → Prop) (fr : Fr) (H : Hp) : Prop :=
  ∀ n base w Z a (ops : Array Oper) (is : List Nat), is.map (fun i => (ops[i]?).bind (cIns P N ops)) = l.map some → HR G w H Z → FR w H Z base N a fr →
    wpOpsIn (Wd r) n P ops (Post G N Q base w H Z) is a w

variable {P G r N}

theorem FR.putO {w : World} {H : Hp} {Z : Zn} {base : BS} {a : Act} {fr : Fr} (hf : FR w H Z base N a fr) {dst : Option Nat} {v : Value} {d : DV} (hv : VR w H Z v d) : FR w H Z base N (a.put dst v) (fr.put dst d) := by
  cases dst with
  | none => exact hf
  | some t => exact hf.put hv

theorem about_wide (o : Oper) (w : World) (ρ : Operand → Value) : ∀ f, o.about P w ρ = some f → (Wd r).fn f := fun _ _ => trivial

/-- An operation that yields a value. -/
theorem wpIn_value {o : Oper} {a : Act} {w w' : World} {n : Nat} {next : Act → World → Prop} {Q : Exit → Act → World → Prop} {v : Value} (hd : ∀ c, o.op ≠ .defer c)
    (h : (execOp a.eval o).run P w = .ok (.value v) w') (hk : next (a.put o.dst v) w') : o.wpIn (Wd r) n P a w next Q := by
  refine ⟨about_wide o w _, ?_⟩
  rw [Oper.semAt_eq _ _ _ hd, h]
  exact hk

theorem wpIn_skipped {o : Oper} {a : Act} {w w' : World} {n : Nat} {next : Act → World → Prop} {Q : Exit → Act → World → Prop} (hd : ∀ c, o.op ≠ .defer c)
    (h : (execOp a.eval o).run P w = .ok .skip w') (hk : next (a.put o.dst undef) w') : o.wpIn (Wd r) n P a w next Q := by
  refine ⟨about_wide o w _, ?_⟩
  rw [Oper.semAt_eq _ _ _ hd, h]
  exact hk

theorem cOp_defer {o : Op} {op : OP} (h : cOp P o = some op) (hne : ∀ o, op ≠ .oth o) : ∀ c, o ≠ .defer c := by
  intro c e
  subst e
  cases h
  exact hne _ rfl

theorem evP_oth {G : Gl} {fr : Fr} {H : Hp} {op : OP} {d : DV} (h : evP G fr H op = some d) : ∀ o, op ≠ .oth o := by
  intro o e; subst e; cases h

theorem ST.pure {op : OP} {dst : Option Nat} {K : Fr → Hp → Prop} {Q : EX → Fr → Hp → Prop} {fr : Fr} {H : Hp} {d : DV} (h : evP G fr H op = some d) (hk : K (fr.put dst d) H) :
    ST P G r N op dst K Q fr H := by
  intro n base w Z a o hc hx hd hr hf
  obtain ⟨v, h1, h2⟩ := evP_sound hr hf hc hx h
  refine wpIn_value (cOp_defer hc (evP_oth h)) (h1 o rfl) ⟨_, H, Z, hk, hr, ?_, .refl hr⟩
  rw [hd]
  exact hf.putO h2

theorem RG.nil {Q : EX → Fr → Hp → Prop} {fr : Fr} {H : Hp} (h : Q .normal fr H) : RG P G r N [] Q fr H := by
  intro n base w Z a ops is hl hr hf
  have : is = [] := by simpa using hl
  subst this
  exact ⟨.normal, fr, H, Z, h, trivial, hr, hf, .refl hr⟩

theorem wpOpsIn_mono {F : Fence} {n : Nat} {ops : Array Oper} {Q Q' : Exit → Act → World → Prop} (hq : ∀ e a w, Q e a w → Q' e a w) : ∀ (is : List Nat) (a : Act) (w : World), wpOpsIn F n P ops Q is a w → wpOpsIn F n P ops Q' is a w
  | [], a, w, h => hq _ _ _ h
  | i :: is, a, w, h => by
    simp only [wpOpsIn] at h ⊢
    cases ho : ops[i]? with
    | none => simp only [ho] at h ⊢; exact wpOpsIn_mono hq is a w h
    | some o =>
      simp only [ho] at h ⊢
      split at h
      · rename_i hw
        rw [if_pos hw]
        refine ⟨h.1, ?_⟩
        have h2 := h.2
        revert h2
        have key : ∀ R, o.uponIn F n P a (wpOpsIn F n P ops Q is) Q R → o.uponIn F n P a (wpOpsIn F n P ops Q' is) Q' R := by
          intro R hR
          unfold Oper.uponIn at hR ⊢
          split at hR
          · exact wpOpsIn_mono hq is _ _ hR
          · exact wpOpsIn_mono hq is _ _ hR
          · exact wpOpsIn_mono hq is _ _ hR
          · refine ⟨hR.1, hR.2.mono fun e w' he => ?_⟩
            cases e with
            | returned v => exact wpOpsIn_mono hq is _ _ he
            | panicked c => exact hq _ _ _ he
            | outgrown => obtain ⟨a', w', hh⟩ := he; exact ⟨a', w', hq _ _ _ hh⟩
          · exact ⟨hR.1, hR.2.mono fun v w' he => wpOpsIn_mono hq is _ _ he⟩
          · refine ⟨hR.1, hR.2.mono fun e w' he => ?_⟩
            cases e with
            | returned v => exact wpOpsIn_mono hq is _ _ he
            | panicked c => exact hq _ _ _ he
            | outgrown => obtain ⟨a', w', hh⟩ := he; exact ⟨a', w', hq _ _ _ hh⟩
          · exact hq _ _ _ hR
          · exact hR
        exact key _
      · rename_i hw
        rw [if_neg hw]
        exact ⟨h.1, wpOpsIn_mono hq is _ _ h.2⟩

theorem wpIn_next {o : Oper} {F : Fence} {n : Nat} {a : Act} {w : World} {K K' : Act → World → Prop} {Q : Exit → Act → World → Prop} (h : o.wpIn F n P a w K Q) (hk : ∀ a w, K a w → K' a w) : o.wpIn F n P a w K' Q :=
  Oper.wpIn_mono hk h

theorem RG.cons_shape {i : Ins} {l : List Ins} {ops : Array Oper} {is : List Nat} (hl : is.map (fun i => (ops[i]?).bind (cIns P N ops)) = (i :: l).map some) :
    ∃ j rest o, is = j :: rest ∧ ops[j]? = some o ∧ cIns P N ops o = some i ∧ rest.map (fun i => (ops[i]?).bind (cIns P N ops)) = l.map some := by
  cases is with
  | nil => simp at hl
  | cons j rest =>
    simp only [List.map_cons, List.cons.injEq] at hl
    cases ho : ops[j]? with
    | none => rw [ho] at hl; simp at hl
    | some o => rw [ho] at hl; exact ⟨j, rest, o, rfl, ho, hl.1, hl.2⟩

theorem cIns_shape {ops : Array Oper} {o : Oper} {i : Ins} (h : cIns P N ops o = some i) : cOp P o.op = some i.op ∧ (opX i.op).all (XOk N) = true ∧ o.dst = i.dst ∧
    ((o.guard = none ∧ i.g = none) ∨ ∃ j want t, o.guard = some (j, want) ∧ (ops[j]?).bind (·.dst) = some t ∧ t < N ∧ i.g = some (t, want)) := by
  unfold cIns at h
  cases hc : cOp P o.op with
  | none => rw [hc] at h; cases h
  | some op =>
    rw [hc] at h
    simp only [Option.bind_some] at h
    split at h
    · rename_i hx
      split at h
      · cases h; exact ⟨rfl, hx, rfl, .inl ⟨‹_›, rfl⟩⟩
      · rename_i j want hg
        cases ht : (ops[j]?).bind (·.dst) with
        | none => rw [ht] at h; cases h
        | some t =>
          rw [ht] at h
          simp only [Option.bind_some] at h
          split at h
          · rename_i hlt; cases h; exact ⟨rfl, hx, rfl, .inr ⟨j, want, t, hg, ht, hlt, rfl⟩⟩
          · cases h
    · cases h

theorem FR.lt {w : World} {H : Hp} {Z : Zn} {base : BS} {a : Act} {fr : Fr} (hf : FR w H Z base N a fr) {t : Nat} (ht : t < N) {b : Bool} (h : fr t = .bool b) : a.tmps[t]? = some (.bool b) := by
  have := hf.vals t ht
  rw [h] at this
  have hb := this.bool_inv
  have hs : t < a.tmps.size := by rw [hf.size]; exact ht
  rw [Array.getElem?_eq_getElem hs]
  simpa [Array.getD, hs] using hb

theorem RG.step {i : Ins} {l : List Ins} {Q : EX → Fr → Hp → Prop} {fr : Fr} {H : Hp} (hg : i.g = none ∨ ∃ t b, i.g = some (t, b) ∧ fr t = .bool b)
    (h : ST P G r N i.op i.dst (RG P G r N l Q) Q fr H) : RG P G r N (i :: l) Q fr H := by
  intro n base w Z a ops is hl hr hf
  obtain ⟨j, rest, o, rfl, ho, hc, hrest⟩ := RG.cons_shape hl
  obtain ⟨h1, h2, h3, h4⟩ := cIns_shape hc
  have hw : Region.wanted o (yielded ops a.tmps) = true := by
    rcases h4 with ⟨h4, _⟩ | ⟨j', want, t, e1, e2, e3, e4⟩
    · simp [Region.wanted, h4]
    · rcases hg with hg | ⟨t', b, g1, g2⟩
      · rw [hg] at e4; cases e4
      · rw [g1] at e4
        cases e4
        have ha := hf.lt e3 g2
        simp [Region.wanted, e1, yielded, e2, ha]
  simp only [wpOpsIn, ho, hw, if_true]
  refine wpIn_next (h n base w Z a o h1 h2 h3 hr hf) fun a' w' ⟨fr', H', Z', k1, k2, k3, k4⟩ => ?_
  exact wpOpsIn_mono (fun _ _ _ hp => hp.before k4) _ _ _ (k1 n base w' Z' a' ops rest hrest k2 k3)

theorem RG.gno {i : Ins} {l : List Ins} {Q : EX → Fr → Hp → Prop} {fr : Fr} {H : Hp} {t : Nat} {b : Bool} (hg : i.g = some (t, b)) (ht : fr t = .bool (!b))
    (h : RG P G r N l Q (fr.put i.dst (.tup [])) H) : RG P G r N (i :: l) Q fr H := by
  intro n base w Z a ops is hl hr hf
  obtain ⟨j, rest, o, rfl, ho, hc, hrest⟩ := RG.cons_shape hl
  obtain ⟨h1, h2, h3, h4⟩ := cIns_shape hc
  have hw : Region.wanted o (yielded ops a.tmps) = false := by
    rcases h4 with ⟨_, h4⟩ | ⟨j', want, t', e1, e2, e3, e4⟩
    · rw [hg] at h4; cases h4
    · rw [hg] at e4
      cases e4
      have ha := hf.lt e3 ht
      cases b <;> simp [Region.wanted, e1, yielded, e2, ha]
  simp only [wpOpsIn, ho, hw, Bool.false_eq_true, if_false]
  refine ⟨about_wide o w _, ?_⟩
  exact h n base w Z _ ops rest hrest hr (by rw [h3]; exact hf.putO (.tup #[] [] rfl (fun j v d h => by simp at h)))

theorem RG.gun {i : Ins} {l : List Ins} {Q : EX → Fr → Hp → Prop} {fr : Fr} {H : Hp} {t : Nat} {b : Bool} (hg : i.g = some (t, b)) {ds : List DV} (ht : fr t = .tup ds)
    (h : RG P G r N l Q (fr.put i.dst (.tup [])) H) : RG P G r N (i :: l) Q fr H := by
  intro n base w Z a ops is hl hr hf
  obtain ⟨j, rest, o, rfl, ho, hc, hrest⟩ := RG.cons_shape hl
  obtain ⟨h1, h2, h3, h4⟩ := cIns_shape hc
  have hw : Region.wanted o (yielded ops a.tmps) = false := by
    rcases h4 with ⟨_, h4⟩ | ⟨j', want, t', e1, e2, e3, e4⟩
    · rw [hg] at h4; cases h4
    · rw [hg] at e4
      cases e4
      have ha := hf.vals _ e3
      rw [ht] at ha
      obtain ⟨vs, hv, _⟩ := ha.tup_inv
      have hlt : a.tmps[t]? = none ∨ ∃ vs, a.tmps[t]? = some (.tuple vs) := by
        cases e5 : a.tmps[t]? with
        | none => exact .inl rfl
        | some x => right; refine ⟨vs, ?_⟩; rw [Array.getD_eq_getD_getElem?, e5] at hv; exact congrArg some hv
      rcases hlt with hlt | ⟨vs, hlt⟩ <;> simp [Region.wanted, e1, yielded, e2, hlt]
  simp only [wpOpsIn, ho, hw, Bool.false_eq_true, if_false]
  refine ⟨about_wide o w _, ?_⟩
  exact h n base w Z _ ops rest hrest hr (by rw [h3]; exact hf.putO (.tup #[] [] rfl (fun j v d h => by simp at h)))

/-- A guard that is not known: both ways. -/
theorem RG.gsplit {i : Ins} {l : List Ins} {Q : EX → Fr → Hp → Prop} {fr : Fr} {H : Hp} {t : Nat} {b x : Bool} (hg : i.g = some (t, b)) (ht : fr t = .bool x)
    (hy : x = b → ST P G r N i.op i.dst (RG P G r N l Q) Q fr H) (hn : x = (!b) → RG P G r N l Q (fr.put i.dst (.tup [])) H) : RG P G r N (i :: l) Q fr H := by
  by_cases e : x = b
  · exact RG.step (.inr ⟨t, b, hg, by rw [ht, e]⟩) (hy e)
  · have e' : x = (!b) := by cases x <;> cases b <;> simp_all
    exact RG.gno hg (by rw [ht, e']) (hn e')

theorem CALL.in {f : FuncId} {ds : List DV} {H : Hp} {Kr Kp : DV → Hp → Prop} (h : CALL P G f ds H Kr Kp) {n : Nat} {w : World} {Z : Zn} {vs : Array Value} (hr : HR G w H Z) (hs : vs.size = ds.length)
    (hv : ∀ (j : Nat) (v : Value) (d : DV), vs[j]? = some v → ds[j]? = some d → VR w H Z v d) : CallsIn (Wd r) n P f vs w (CPost G Kr Kp w H Z) := by
  have := (callsIn_wide (n := n)).2 (h.2 w Z vs hr hs hv)
  exact this

theorem CALL.mono {f : FuncId} {ds : List DV} {H : Hp} {Kr Kp Kr' Kp' : DV → Hp → Prop} (h : CALL P G f ds H Kr Kp) (h1 : ∀ d H', Kr d H' → Kr' d H') (h2 : ∀ d H', Kp d H' → Kp' d H') : CALL P G f ds H Kr' Kp' :=
  ⟨h.1, fun w Z vs hr hs hv => (h.2 w Z vs hr hs hv).mono fun e w' he => by
    cases e with
    | returned v => obtain ⟨d, H', Z', k, rest⟩ := he; exact ⟨d, H', Z', h1 _ _ k, rest⟩
    | panicked ch => obtain ⟨v, d, H', Z', e1, k, rest⟩ := he; exact ⟨v, d, H', Z', e1, h2 _ _ k, rest⟩
    | outgrown => exact he⟩

theorem run_enter {f : FuncId} {fn : Func} (hf : P.funcs[f]? = some fn) (hb : fn.body.isNone = false) (hn : (fn.name == "runtime.NumGoroutine") = false) (args : Array Value) (w : World) :
    (callFunc f args).run P w = .ok (.enter f args) w := by
  simp only [callFunc, Sem.run_bind, run_program, Result.andThen_ok, hf, hn, hb, Bool.false_eq_true, if_false, Sem.run_pure]

/-- A call that enters a function, whatever way it is written. -/
theorem wpIn_call {o : Oper} {n : Nat} {base : BS} {w : World} {Z : Zn} {a : Act} {K : Fr → Hp → Prop} {Q : EX → Fr → Hp → Prop} {fr : Fr} {H : Hp} {f : FuncId} {vs : Array Value} {ds : List DV} {dst : Option Nat}
    (hd : ∀ c, o.op ≠ .defer c) (hdst : o.dst = dst) (hr : HR G w H Z) (hf : FR w H Z base N a fr)
    (hrun : (∃ fn, P.funcs[f]? = some fn ∧ fn.body.isNone = false ∧ (fn.name == "runtime.NumGoroutine") = false) → (execOp a.eval o).run P w = .ok (.enter f vs) w) (hs : vs.size = ds.length)
    (hv : ∀ (j : Nat) (v : Value) (d : DV), vs[j]? = some v → ds[j]? = some d → VR w H Z v d)
    (h : CALL P G f ds H (fun d H' => K (fr.put dst d) H') (fun d H' => Q (.panic d) fr H')) :
    o.wpIn (Wd r) n P a w (fun a' w' => ∃ fr' H' Z', K fr' H' ∧ HR G w' H' Z' ∧ FR w' H' Z' base N a' fr' ∧ Ext w H Z w' H' Z') (Post G N Q base w H Z) := by
  refine ⟨about_wide o w _, ?_⟩
  rw [Oper.semAt_eq _ _ _ hd, hrun h.1]
  refine ⟨fun h => by simp [Wd, Fence.wide] at h, (h.in hr hs hv).mono fun e w' he => ?_⟩
  cases e with
  | returned v =>
    obtain ⟨d, H', Z', k, hvd, hr', hx⟩ := he
    exact ⟨_, H', Z', k, hr', by rw [hdst]; exact (hf.ext hr hx).putO hvd, hx⟩
  | panicked ch =>
    obtain ⟨v, d, H', Z', e1, k, hvd, hr', hx⟩ := he
    exact ⟨.panic d, fr, H', Z', k, ⟨v, e1, hvd⟩, hr', hf.ext hr hx, hx⟩
  | outgrown => exact he.elim

theorem cOp_call {o : Op} {f : FuncId} {xs : List X} (h : cOp P o = some (.call f xs)) : ∃ c, o = .call c ∧ c.callee = .value (.func f) ∧ xs = c.args.toList.map cX := by
  cases o
  case call c =>
    simp only [cOp] at h
    split at h
    case h_6 => cases h; exact ⟨c, rfl, ‹_›, rfl⟩
    all_goals exfalso
    all_goals repeat' (first | (rw [Option.bind_eq_some_iff] at h; obtain ⟨_, _, h⟩ := h) | split at h)
    all_goals cases h
  all_goals (first | (cases h; done) | skip)
  all_goals exfalso
  all_goals simp only [cOp] at h
  all_goals repeat' (first | (rw [Option.bind_eq_some_iff] at h; obtain ⟨_, _, h⟩ := h) | split at h)
  all_goals cases h

theorem ST.call {f : FuncId} {xs : List X} {dst : Option Nat} {K : Fr → Hp → Prop} {Q : EX → Fr → Hp → Prop} {fr : Fr} {H : Hp}
    (h : CALL P G f (xs.map (XV G fr)) H (fun d H' => K (fr.put dst d) H') (fun d H' => Q (.panic d) fr H')) : ST P G r N (.call f xs) dst K Q fr H := by
  intro n base w Z a o hc hx hd hr hf
  obtain ⟨c, ho, hcal, rfl⟩ := cOp_call hc
  obtain ⟨h1, h2⟩ := vr_map hr hf c.args (by simpa [opX] using hx)
  refine wpIn_call (vs := c.args.map a.eval) (by rw [ho]; intro c e; cases e) hd hr hf (fun ⟨fn, e1, e2, e3⟩ => ?_) (by simp) (by simpa [List.map_map, Function.comp_def] using h2) h
  simp only [execOp, ho, resolve, hcal, Act.eval, Deferred.ofValue, Sem.run_bind, Sem.run_pure, Result.andThen_ok, invoke, Array.empty_append, Array.append_empty]
  exact run_enter e1 e2 e3 _ _

end
end Go.Run
/- Operations that make and write memory. -/
namespace Go.Run
open Go Go.RowKit

section
variable {P : Program} {G : Gl} {r : Option Nat} {N : Nat}

theorem cOp_alloc {o : Op} {zs : List DV} {ty : TypeId} (h : cOp P o = some (.alloc zs ty)) : ∃ z, o = .alloc ty ∧ zeroT P ty = some z ∧ zs = z.1 := by
  cases o
  case alloc t =>
    simp only [cOp] at h
    rw [Option.bind_eq_some_iff] at h
    obtain ⟨z, h1, h⟩ := h
    cases h
    exact ⟨z, rfl, h1, rfl⟩
  all_goals (first | (cases h; done) | skip)
  all_goals exfalso
  all_goals simp only [cOp] at h
  all_goals repeat' (first | (rw [Option.bind_eq_some_iff] at h; obtain ⟨_, _, h⟩ := h) | split at h)
  all_goals cases h

theorem cOp_box {o : Op} {ty : TypeId} {x : X} (h : cOp P o = some (.box ty x)) : ∃ y, o = .box ty y ∧ x = cX y := by
  cases o
  case box t y => cases h; exact ⟨y, rfl, rfl⟩
  all_goals (first | (cases h; done) | skip)
  all_goals exfalso
  all_goals simp only [cOp] at h
  all_goals repeat' (first | (rw [Option.bind_eq_some_iff] at h; obtain ⟨_, _, h⟩ := h) | split at h)
  all_goals cases h

theorem cOp_st {o : Op} {sz : Nat} {x y : X} (h : cOp P o = some (.st sz x y)) : ∃ t i a b, o = .store t a b ∧ P.info? t = some i ∧ sz = i.size ∧ x = cX a ∧ y = cX b := by
  cases o
  case store t a b =>
    simp only [cOp] at h
    rw [Option.bind_eq_some_iff] at h
    obtain ⟨i, h1, h⟩ := h
    cases h
    exact ⟨t, i, a, b, rfl, h1, rfl, rfl, rfl⟩
  all_goals (first | (cases h; done) | skip)
  all_goals exfalso
  all_goals simp only [cOp] at h
  all_goals repeat' (first | (rw [Option.bind_eq_some_iff] at h; obtain ⟨_, _, h⟩ := h) | split at h)
  all_goals cases h

theorem cOp_calv {o : Op} {x : X} {xs : List X} (h : cOp P o = some (.calv x xs)) : ∃ c y, o = .call c ∧ c.callee = .value y ∧ x = cX y ∧ xs = c.args.toList.map cX := by
  cases o
  case call c =>
    simp only [cOp] at h
    split at h
    case h_7 => cases h; exact ⟨c, _, rfl, ‹_›, rfl, rfl⟩
    all_goals exfalso
    all_goals repeat' (first | (rw [Option.bind_eq_some_iff] at h; obtain ⟨_, _, h⟩ := h) | split at h)
    all_goals cases h
  all_goals (first | (cases h; done) | skip)
  all_goals exfalso
  all_goals simp only [cOp] at h
  all_goals repeat' (first | (rw [Option.bind_eq_some_iff] at h; obtain ⟨_, _, h⟩ := h) | split at h)
  all_goals cases h

theorem cOp_pan {o : Op} {x : X} (h : cOp P o = some (.pan x)) : ∃ y, o = .panic y ∧ x = cX y := by
  cases o
  case panic y => cases h; exact ⟨y, rfl, rfl⟩
  all_goals (first | (cases h; done) | skip)
  all_goals exfalso
  all_goals simp only [cOp] at h
  all_goals repeat' (first | (rw [Option.bind_eq_some_iff] at h; obtain ⟨_, _, h⟩ := h) | split at h)
  all_goals cases h

theorem cOp_bsl {o : Op} {ty : TypeId} {len sz : Nat} {zs : List DV} {ps : List (Nat × Nat × X)} (h : cOp P o = some (.bsl ty len sz zs ps)) :
    ∃ t qs z, o = .buildSlice t len qs ∧ P.underlying t = some (.slice ty) ∧ zeroT P ty = some z ∧ sz = z.2 ∧ len * sz ≤ 16777216 ∧ 0 < sz ∧ zs = List.flatten (List.replicate len z.1) ∧ ps = qs.toList.map fun p => (p.1 * sz, sz, cX p.2) := by
  cases o
  case buildSlice t n qs =>
    simp only [cOp] at h
    split at h
    · rename_i e hu
      rw [Option.bind_eq_some_iff] at h
      obtain ⟨z, h1, h⟩ := h
      split at h
      · rename_i hc; cases h; exact ⟨t, qs, z, rfl, hu, h1, rfl, hc.1, hc.2, rfl, rfl⟩
      · cases h
    · cases h
  all_goals (first | (cases h; done) | skip)
  all_goals exfalso
  all_goals simp only [cOp] at h
  all_goals repeat' (first | (rw [Option.bind_eq_some_iff] at h; obtain ⟨_, _, h⟩ := h) | split at h)
  all_goals cases h

theorem cOp_app {o : Op} {ty sz bytes : Nat} {x y : X} (h : cOp P o = some (.app ty sz bytes x y)) :
    ∃ c s u t t' z i, o = .call c ∧ c.callee = .builtin .append ∧ c.args = #[s, u] ∧ c.argTypes = #[t, t'] ∧ P.underlying t = some (.slice ty) ∧ ((∃ e, P.underlying t' = some (.slice e)) ∨ P.underlying t' = some .string) ∧
      zeroT P ty = some z ∧ P.info? ty = some i ∧ sz = z.2 ∧ bytes = i.bytes ∧ 0 < sz ∧ 0 < bytes ∧ x = cX s ∧ y = cX u := by
  cases o
  case call c =>
    simp only [cOp] at h
    split at h
    case h_4 =>
      split at h <;> first | (cases h; done) | skip
      rename_i hcal _ _ s u t t' ha ht
      have hargs : c.args = #[s, u] := by rw [← Array.toList_inj]; exact ha
      have htys : c.argTypes = #[t, t'] := by rw [← Array.toList_inj]; exact ht
      split at h
      · rename_i e e' h1 h2
        rw [Option.bind_eq_some_iff] at h
        obtain ⟨z, hz, h⟩ := h
        rw [Option.bind_eq_some_iff] at h
        obtain ⟨i, hi, h⟩ := h
        split at h
        · rename_i hp; cases h; exact ⟨c, s, u, t, t', z, i, rfl, hcal, hargs, htys, h1, .inl ⟨_, h2⟩, hz, hi, rfl, rfl, hp.1, hp.2, rfl, rfl⟩
        · cases h
      · rename_i e h1 h2
        rw [Option.bind_eq_some_iff] at h
        obtain ⟨z, hz, h⟩ := h
        rw [Option.bind_eq_some_iff] at h
        obtain ⟨i, hi, h⟩ := h
        split at h
        · rename_i hp; cases h; exact ⟨c, s, u, t, t', z, i, rfl, hcal, hargs, htys, h1, .inr h2, hz, hi, rfl, rfl, hp.1, hp.2, rfl, rfl⟩
        · cases h
      · cases h
    all_goals exfalso
    all_goals repeat' (first | (rw [Option.bind_eq_some_iff] at h; obtain ⟨_, _, h⟩ := h) | split at h)
    all_goals cases h
  all_goals (first | (cases h; done) | skip)
  all_goals exfalso
  all_goals simp only [cOp] at h
  all_goals repeat' (first | (rw [Option.bind_eq_some_iff] at h; obtain ⟨_, _, h⟩ := h) | split at h)
  all_goals cases h

/-- A new tracked row of cells. -/
theorem alloc_cells {w : World} {H : Hp} {Z : Zn} (hr : HR G w H Z) {arr : Array Value} {cs : List DV} (h : RL w H Z arr cs) (ty : TypeId) :
    HR G (w.alloc (.cells arr ty)) (H.upd w.heap.size (some (.cells cs ty))) Z ∧ Ext w H Z (w.alloc (.cells arr ty)) (H.upd w.heap.size (some (.cells cs ty))) Z :=
  alloc_tracked hr _ _ fun hx => ⟨arr, (0, 0), heap_alloc_new w _, .inl rfl, h.size, h.one, fun j v d e1 e2 => (h.val j v d e1 e2).ext hr hx⟩

theorem ST.alloc {zs : List DV} {ty : TypeId} {dst : Option Nat} {K : Fr → Hp → Prop} {Q : EX → Fr → Hp → Prop} {fr : Fr} {H : Hp}
    (h : ∀ b, H b = none → K (fr.put dst (.ptr b 0)) (H.upd b (some (.cells zs ty)))) : ST P G r N (.alloc zs ty) dst K Q fr H := by
  intro n base w Z a o hc hx hd hr hf
  obtain ⟨z, ho, hz, rfl⟩ := cOp_alloc hc
  obtain ⟨i, z0, hi, hz0, hz1, hz2, hz3⟩ := zeroT_sound hz
  have hrl := zero_RL (w := w) (H := H) (Z := Z) hz3
  rw [hz1] at hrl
  obtain ⟨h1, h2⟩ := alloc_cells hr hrl ty
  refine wpIn_value (v := .pointer (some ⟨w.heap.size, 0, none⟩)) (by rw [ho]; intro c e; cases e) ?_ ⟨_, _, Z, h w.heap.size (hr.free (Nat.le_refl _)), h1, ?_, h2⟩
  · simp only [execOp, ho, Instr.alloc, Sem.run_bind, zeroValue, typeInfo, run_program, Result.andThen_ok, hi, hz0, Sem.run_pure, newVar, newRow, run_newObj]
    rfl
  · rw [hd]; exact (hf.ext hr h2).putO (.ptr _ _)

theorem ST.box {ty : TypeId} {x : X} {ys : List DV} {dst : Option Nat} {K : Fr → Hp → Prop} {Q : EX → Fr → Hp → Prop} {fr : Fr} {H : Hp} (hy : cellsD (XV G fr x) = some ys)
    (h : ∀ b, H b = none → K (fr.put dst (.ptr b 0)) (H.upd b (some (.cells ys ty)))) : ST P G r N (.box ty x) dst K Q fr H := by
  intro n base w Z a o hc hx hd hr hf
  obtain ⟨y, ho, rfl⟩ := cOp_box hc
  have hrl := cellsD_sound (cX_sound hr hf (by simpa [opX] using hx)) hy
  obtain ⟨h1, h2⟩ := alloc_cells hr hrl ty
  refine wpIn_value (v := .pointer (some ⟨w.heap.size, 0, none⟩)) (by rw [ho]; intro c e; cases e) ?_ ⟨_, _, Z, h w.heap.size (hr.free (Nat.le_refl _)), h1, ?_, h2⟩
  · simp only [execOp, ho, Instr.box, Sem.run_bind, Result.andThen_ok, Sem.run_pure, newVar, newRow, run_newObj]
    rfl
  · rw [hd]; exact (hf.ext hr h2).putO (.ptr _ _)

/-- A variable is written: the world behind it. -/
theorem store_cells {w : World} {H : Hp} {Z : Zn} (hr : HR G w H Z) {b off : Nat} {cs ys : List DV} {ty : TypeId} (hb : H b = some (.cells cs ty)) {vs : Array Value} (hv : RL w H Z vs ys) (hl : off + ys.length ≤ cs.length) :
    ∃ w', (storeCells ⟨b, off, none⟩ vs.toList 0).run P w = .ok () w' ∧ HR G w' (H.upd b (some (.cells (spliceL off ys cs) ty))) Z ∧ Ext w H Z w' (H.upd b (some (.cells (spliceL off ys cs) ty))) Z := by
  obtain ⟨arr, fz, hw, hfz, hs, ho, hva⟩ := hr.obj b _ hb
  have hvs := hv.size
  have hle : off + vs.toList.length ≤ arr.toList.length := by simp; omega
  have hrun := run_storeCells' (P := P) (b := b) (o := off) (ty := ty) (fz := fz) vs.toList 0 arr w hw (by rcases hfz with h | h; exact .inl (by omega); exact .inr h) (by simp; omega) (fun v hm => by
    obtain ⟨j, hj⟩ := List.getElem?_of_mem hm
    exact hv.one j v (by simpa using hj))
  simp only [Nat.add_zero] at hrun
  refine ⟨_, hrun, ?_⟩
  have get : ∀ k, (arr.toList.take off ++ vs.toList ++ arr.toList.drop (off + vs.toList.length)).toArray[k]? = if off ≤ k ∧ k < off + ys.length then vs[k - off]? else arr[k]? := by
    intro k
    rw [List.getElem?_toArray, splice_get hle]
    simp only [Array.length_toList, Array.getElem?_toList, hvs]
  refine set_cells hr hb hw hfz (by simp; omega) (by
    show _ = (spliceL off ys cs).length
    unfold spliceL; rw [splice_length hl]; simp; omega) (fun j v hj => ?_) (fun j v d hj hd => ?_)
  · rw [get] at hj
    split at hj
    · exact hv.one _ _ hj
    · exact ho _ _ hj
  · rw [get] at hj
    unfold spliceL at hd
    rw [splice_get hl] at hd
    split at hj
    · rename_i hc
      rw [if_pos hc] at hd
      exact hv.val _ _ _ hj hd
    · rename_i hc
      rw [if_neg hc] at hd
      exact hva _ _ _ hj hd

theorem ST.st {sz b off : Nat} {x y : X} {cs ys : List DV} {ty : TypeId} {dst : Option Nat} {K : Fr → Hp → Prop} {Q : EX → Fr → Hp → Prop} {fr : Fr} {H : Hp} (hx' : XV G fr x = .ptr b off) (hb : H b = some (.cells cs ty))
    (hy : cellsD (XV G fr y) = some ys) (hl : ys.length = sz) (hle : off + sz ≤ cs.length) (h : K (fr.put dst .junk) (H.upd b (some (.cells (spliceL off ys cs) ty)))) : ST P G r N (.st sz x y) dst K Q fr H := by
  intro n base w Z a o hc hx hd hr hf
  obtain ⟨t, i, p, q, ho, hi, rfl, rfl, rfl⟩ := cOp_st hc
  simp only [opX, List.all_cons, List.all_nil, Bool.and_true, Bool.and_eq_true] at hx
  have hp := cX_sound hr hf hx.1
  rw [hx'] at hp
  have hrl := cellsD_sound (cX_sound hr hf hx.2) hy
  obtain ⟨w', h1, h2, h3⟩ := store_cells (P := P) hr hb hrl (off := off) (by omega)
  refine wpIn_skipped (w' := w') (by rw [ho]; intro c e; cases e) ?_ ⟨_, _, Z, h, h2, ?_, h3⟩
  · have hsz : ¬ (a.eval q).cells.size ≠ i.size := by have := hrl.size; omega
    simp only [execOp, ho, Instr.storeAt, hp.ptr_inv, Instr.sureAddr, Sem.run_bind, Sem.run_pure, Result.andThen_ok, storeVar, run_sizeOf hi]
    rw [if_neg hsz]
    simp only [h1, Result.andThen_ok]
  · rw [hd]; exact (hf.ext hr h3).putO (.junk _)

theorem ST.calv {f : FuncId} {x : X} {xs : List X} {df dc : List DV} {dst : Option Nat} {K : Fr → Hp → Prop} {Q : EX → Fr → Hp → Prop} {fr : Fr} {H : Hp} (hx' : XV G fr x = .func (.func f) df dc)
    (h : CALL P G f (df ++ xs.map (XV G fr) ++ dc) H (fun d H' => K (fr.put dst d) H') (fun d H' => Q (.panic d) fr H')) : ST P G r N (.calv x xs) dst K Q fr H := by
  intro n base w Z a o hc hx hd hr hf
  obtain ⟨c, y, ho, hcal, rfl, rfl⟩ := cOp_calv hc
  simp only [opX, List.all_cons, Bool.and_eq_true] at hx
  have hy := cX_sound hr hf hx.1
  rw [hx'] at hy
  obtain ⟨h1, h2⟩ := vr_map hr hf c.args hx.2
  generalize hev : a.eval y = vy at hy
  obtain ⟨fs, cp, rfl, e1, e2, g1, g2⟩ : ∃ fs cp : Array Value, vy = .func (.func f) fs cp ∧ fs.size = df.length ∧ cp.size = dc.length ∧ (∀ (j : Nat) (v : Value) (d : DV), fs[j]? = some v → df[j]? = some d → VR w H Z v d) ∧
      (∀ (j : Nat) (v : Value) (d : DV), cp[j]? = some v → dc[j]? = some d → VR w H Z v d) := by
    cases hy; exact ⟨_, _, rfl, ‹_›, ‹_›, ‹_›, ‹_›⟩
  have hsz : (fs ++ c.args.map a.eval ++ cp).size = (df ++ (c.args.toList.map cX).map (XV G fr) ++ dc).length := by simp; omega
  have hall : ∀ (j : Nat) (v : Value) (d : DV), (fs ++ c.args.map a.eval ++ cp)[j]? = some v → (df ++ (c.args.toList.map cX).map (XV G fr) ++ dc)[j]? = some d → VR w H Z v d := by
    intro j v d hj hd
    rw [List.append_assoc] at hd
    rw [Array.append_assoc] at hj
    rw [Array.getElem?_append] at hj
    rw [List.getElem?_append] at hd
    by_cases c1 : j < fs.size
    · rw [if_pos c1] at hj
      rw [if_pos (by omega)] at hd
      exact g1 j v d hj hd
    · rw [if_neg c1] at hj
      rw [if_neg (by omega)] at hd
      rw [Array.getElem?_append] at hj
      rw [List.getElem?_append, ← e1] at hd
      simp only [Array.size_map, List.length_map, Array.length_toList] at hj hd
      split at hj
      · rename_i c2
        rw [if_pos c2] at hd
        exact h2 _ v d hj (by simpa [List.map_map, Function.comp_def] using hd)
      · rename_i c2
        rw [if_neg c2] at hd
        exact g2 _ v d hj hd
  refine wpIn_call (by rw [ho]; intro c e; cases e) hd hr hf (fun hfn => ?_) hsz hall h
  obtain ⟨fn, k1, k2, k3⟩ := hfn
  simp only [execOp, ho, resolve, hcal, hev, Deferred.ofValue, Sem.run_bind, Sem.run_pure, Result.andThen_ok, invoke]
  exact run_enter k1 k2 k3 _ _

theorem ST.pan {x : X} {t : TypeId} {dv : DV} {dst : Option Nat} {K : Fr → Hp → Prop} {Q : EX → Fr → Hp → Prop} {fr : Fr} {H : Hp} (hx' : XV G fr x = .iface t dv) (h : Q (.panic (.iface t dv)) fr H) : ST P G r N (.pan x) dst K Q fr H := by
  intro n base w Z a o hc hx hd hr hf
  obtain ⟨y, ho, rfl⟩ := cOp_pan hc
  have hy := cX_sound hr hf (by simpa [opX] using hx)
  rw [hx'] at hy
  generalize hev : a.eval y = vy at hy
  have hy' := hy
  cases hy
  rename_i v hv
  refine ⟨about_wide o w _, ?_⟩
  rw [Oper.semAt_eq _ _ _ (by rw [ho]; intro c e; cases e)]
  have : (execOp a.eval o).run P w = .halt (.panic (.iface t v)) w := by
    simp only [execOp, ho, hev, Instr.panic, Sem.run_bind, run_goPanic, Result.andThen_halt]
  rw [this]
  exact ⟨.panic (.iface t dv), fr, H, Z, h, ⟨_, rfl, hy'⟩, hr, hf, .refl hr⟩

end
end Go.Run
/- append, and rows that are made. -/
namespace Go.Run
open Go Go.RowKit

section
variable {P : Program} {G : Gl} {r : Option Nat} {N : Nat} {w : World} {H : Hp} {Z : Zn}

/-- A new row to which may be appended. -/
theorem alloc_front (hr : HR G w H Z) {arr : Array Value} {cs : List DV} {n sz cap : Nat} (ty : TypeId) (hl : cs.length = n * sz) (hcap : arr.size = cap * sz) (hn : n ≤ cap)
    (one : ∀ (j : Nat) (v : Value), j < cs.length → arr[j]? = some v → v.oneCell' = true) (val : ∀ (j : Nat) (v : Value) (d : DV), arr[j]? = some v → cs[j]? = some d → VR w H Z v d) :
    HR G (w.alloc (.cells arr ty)) (H.upd w.heap.size (some (.front n sz ty))) Z ∧ Ext w H Z (w.alloc (.cells arr ty)) (H.upd w.heap.size (some (.front n sz ty))) Z ∧
      VR (w.alloc (.cells arr ty)) (H.upd w.heap.size (some (.front n sz ty))) Z (.slice (some ⟨w.heap.size, 0, none⟩) n cap) (.lst cs n sz (some (w.heap.size, 0))) := by
  have hnew : (w.alloc (.cells arr ty)).heap[w.heap.size]? = some (.cells arr ty (0, 0)) := heap_alloc_new w _
  obtain ⟨h1, h2⟩ := alloc_tracked hr (.cells arr ty) (.front n sz ty) fun hx => ⟨arr, (0, 0), cap, hnew, hn, hcap, .inl (Nat.zero_le _)⟩
  refine ⟨h1, h2, .lst _ _ _ _ _ _ (fun j => arr.getD j undef) hl hn (fun j hj => ?_) (fun j hj => ?_) (fun j d hd => ?_) (fun b off e => ?_)⟩
  · have hlt : j < arr.size := by rw [hcap]; have := Nat.mul_le_mul_right sz hn; omega
    refine ⟨_, rfl, rfl, ?_, .inr ⟨n, sz, ty, upd_self _ _ _, by simp; omega⟩⟩
    rw [cell_of_row _ _ _ _ _ _ hnew]
    simp [Array.getD, hlt]
  · have hlt : j < arr.size := by rw [hcap]; have := Nat.mul_le_mul_right sz hn; omega
    have e : arr.getD j undef = arr[j] := by simp [Array.getD, hlt]
    rw [e]; exact one j _ hj (Array.getElem?_eq_getElem hlt)
  · have hj := (List.getElem?_eq_some_iff.1 hd).1
    have hlt : j < arr.size := by rw [hcap]; have := Nat.mul_le_mul_right sz hn; omega
    have e : arr.getD j undef = arr[j] := by simp [Array.getD, hlt]
    rw [e]
    exact (val j _ d (Array.getElem?_eq_getElem hlt) hd).ext hr h2
  · cases e
    refine ⟨by simp, fun f sz' ty' hf => ?_⟩
    rw [upd_self] at hf
    cases hf
    exact ⟨by omega, fun _ => ⟨rfl, by simp, arr, (0, 0), hnew, by simpa using hcap⟩⟩

theorem bldD_length {f : X → DV} : ∀ (ps : List (Nat × Nat × X)) (cs ds : List DV), bldD f ps cs = some ds → ds.length = cs.length
  | [], cs, ds, h => by cases h; rfl
  | (off, sz, x) :: ps, cs, ds, h => by
    simp only [bldD] at h
    split at h
    · split at h
      · rename_i hc
        rw [bldD_length ps _ ds h]
        unfold spliceL
        exact splice_length (by omega)
      · cases h
    · cases h

theorem flatten_get {α : Type} (l : List α) (hl : l ≠ []) : ∀ (n j : Nat), j < n * l.length → (List.flatten (List.replicate n l))[j]? = l[j % l.length]?
  | 0, j, h => by simp at h
  | n + 1, j, h => by
    have hpos : 0 < l.length := List.length_pos_iff.2 hl
    rw [List.replicate_succ, List.flatten_cons, List.getElem?_append]
    by_cases hj : j < l.length
    · rw [if_pos hj, Nat.mod_eq_of_lt hj]
    · rw [if_neg hj, flatten_get l hl n (j - l.length) (by rw [Nat.add_mul] at h; omega), ← Nat.mod_eq_sub_mod (by omega)]

theorem zeros_RL {z0 : Value} {size n : Nat} (h : z0.cells.all (·.oneCell') = true ∧ z0.cells.size = size) (hp : 0 < size) :
    RL w H Z ((Array.range (n * size)).map (z0.cells[· % z0.cells.size]!)) (List.flatten (List.replicate n (z0.cells.toList.map cV))) := by
  have hz := zero_RL (w := w) (H := H) (Z := Z) h
  have hne : z0.cells.toList.map cV ≠ [] := by intro e; have := congrArg List.length e; simp at this; have := h.2; simp_all
  have hlen : (z0.cells.toList.map cV).length = size := by simp [h.2]
  have get : ∀ j v, ((Array.range (n * size)).map (z0.cells[· % z0.cells.size]!))[j]? = some v → j < n * size ∧ z0.cells[j % size]? = some v := by
    intro j v hj
    rw [Array.getElem?_map] at hj
    by_cases hlt : j < n * size
    · have : (Array.range (n * size))[j]? = some j := by simp [hlt]
      rw [this] at hj
      simp only [Option.map_some, Option.some.injEq] at hj
      refine ⟨hlt, ?_⟩
      have hm : j % size < z0.cells.size := by rw [h.2]; exact Nat.mod_lt _ hp
      rw [h.2] at hj
      rw [Array.getElem?_eq_getElem hm, ← hj]
      exact congrArg some (getElem!_pos z0.cells (j % size) hm).symm
    · have : (Array.range (n * size))[j]? = none := by simp; omega
      rw [this] at hj; cases hj
  refine ⟨by simp [h.2], fun j v hj => hz.one _ _ (get j v hj).2, fun j v d hj hd => ?_⟩
  obtain ⟨g1, g2⟩ := get j v hj
  rw [flatten_get _ hne n j (by rw [hlen]; exact g1), hlen] at hd
  exact hz.val _ _ _ g2 hd

theorem ST.bsl {ty len sz : Nat} {zs cs : List DV} {ps : List (Nat × Nat × X)} {dst : Option Nat} {K : Fr → Hp → Prop} {Q : EX → Fr → Hp → Prop} {fr : Fr} {H : Hp} (hb : bldD (XV G fr) ps zs = some cs)
    (h : ∀ b, H b = none → K (fr.put dst (.lst cs len sz (some (b, 0)))) (H.upd b (some (.front len sz ty)))) : ST P G r N (.bsl ty len sz zs ps) dst K Q fr H := by
  intro n base w Z a o hc hx hd hr hf
  obtain ⟨t, qs, z, ho, hu, hz, hsz, hle, hpos, rfl, rfl⟩ := cOp_bsl hc
  obtain ⟨i, z0, hi, hz0, hz1, hz2, hz3⟩ := zeroT_sound hz
  have hsi : i.size = sz := by omega
  have hrl := zeros_RL (w := w) (H := H) (Z := Z) (n := len) hz3 (by omega)
  rw [hz1, hsi] at hrl
  have hx' := List.all_eq_true.1 hx
  obtain ⟨arr', k1, k2⟩ := fill_sound (w := w) (H := H) (Z := Z) (place := fun n => some (n * sz, sz)) (fr := fr) (G := G) (ρ := a.eval) qs.toList _ _ _ cs (by simp) (fun j p q e1 e2 => by
    rw [List.getElem?_map, e1] at e2
    cases e2
    refine ⟨rfl, cX_sound hr hf ?_⟩
    have : cX p.2 ∈ (qs.toList.map fun p => ((p.1 * sz, sz, cX p.2) : Nat × Nat × X)).map (·.2.2) := List.mem_map.2 ⟨_, List.mem_map.2 ⟨p, List.mem_of_getElem? e1, rfl⟩, rfl⟩
    exact hx' _ this) hrl hb
  have hcl : cs.length = len * sz := by rw [bldD_length _ _ _ hb, ← hrl.size]; simp
  obtain ⟨h1, h2, h3⟩ := alloc_front hr ty (n := len) (sz := sz) (cap := len) hcl (by rw [k2.size, hcl]) (Nat.le_refl _) (fun j v _ hj => k2.one j v hj) k2.val
  have hrun : (Instr.buildSlice t len (qs.map fun p => (p.1, a.eval p.2))).run P w = .ok (.slice (some ⟨w.heap.size, 0, none⟩) len len) (w.alloc (.cells arr' ty)) := by
    have hno : ¬ (len * sz > 2 ^ 24) := by omega
    by_cases hz : len * sz = 0
    · have hl0 : len = 0 := by rcases Nat.mul_eq_zero.1 hz with h | h; exact h; omega
      subst hl0
      have ea : (Array.range (0 * sz)).map (z0.cells[· % z0.cells.size]!) = #[] := by simp
      rw [ea] at k1
      have e0 : Array.range 0 = (#[] : Array Nat) := rfl
      simp [Instr.buildSlice, run_underlying hu, run_sizeOf hi, newRow, hsi, e0, k1]
      try rfl
    · have hz' : ¬ (len = 0 ∨ sz = 0) := by intro h; rcases h with h | h <;> simp [h] at hz
      simp only [Instr.buildSlice, Sem.run_bind, run_underlying hu, Result.andThen_ok, run_sizeOf hi, hsi]
      rw [if_neg hno, if_neg hz]
      simp [zeroValue, typeInfo, hi, hz0, newRow, k1]
      try rfl
  refine wpIn_value (v := .slice (some ⟨w.heap.size, 0, none⟩) len len) (by rw [ho]; intro c e; cases e) (by simp only [execOp, ho, Sem.run_bind, hrun, Result.andThen_ok, Sem.run_pure]) ⟨_, _, Z, h w.heap.size (hr.free (Nat.le_refl _)), h1, ?_, h2⟩
  rw [hd]; exact (hf.ext hr h2).putO h3

/-- What a source of an append holds. -/
def B8 (u : UInt8) : DV := .int .u8 u.toNat

def srcD (H : Hp) (sz : Nat) : DV → Option (List DV × Nat)
  | .lst ys m sz' _ => if sz' = sz then some (ys, m) else none
  | .nils => some ([], 0)
  | .zc => some ([], 0)
  | .str s => if sz = 1 then some (s.map B8, s.length) else none
  | .win b off n _ => match H b with
    | some (.cells cs _) => if off + n * sz ≤ cs.length then some ((cs.drop off).take (n * sz), n) else none
    | _ => none
  | _ => none

theorem loadCells_RL {a : Addr} {cs : List DV} {vs : Nat → Value} (h : CP w H Z a cs vs) {n : Nat} (hn : n = cs.length) : ∃ arr, (loadCells a n).run P w = .ok arr w ∧ RL w H Z arr cs := by
  subst hn
  have hl := loadCells_from (P := P) (w := w) h.spot (vs := vs) cs.length 0 #[] (fun j _ h2 => (h.cell j (by omega)).1)
  refine ⟨_, hl, by simp, fun j v hj => ?_, fun j v d hj hd => ?_⟩
  · simp only [Array.empty_append, List.getElem?_toArray, List.getElem?_map] at hj
    cases e : (List.range' 0 cs.length)[j]? with
    | none => rw [e] at hj; cases hj
    | some q =>
      rw [e] at hj
      have := List.getElem?_range'_lt' e
      cases hj
      exact h.one _ this
  · simp only [Array.empty_append, List.getElem?_toArray, List.getElem?_map] at hj
    have hlt := (List.getElem?_eq_some_iff.1 hd).1
    have : (List.range' 0 cs.length)[j]? = some j := by simp [hlt]
    rw [this] at hj
    cases hj
    exact h.val _ _ hd

theorem src_sound (hr : HR G w H Z) {sz m : Nat} {x : Value} {dx : DV} {ys : List DV} (hx : VR w H Z x dx) (h : srcD H sz dx = some (ys, m)) :
    (Builtin.lenOf x).run P w = .ok m w ∧ ∃ arr, (Builtin.firstCells sz m x).run P w = .ok arr w ∧ RL w H Z arr ys ∧ ys.length = m * sz := by
  have emp : RL w H Z #[] [] := ⟨rfl, fun j v hj => by simp at hj, fun j v d hj => by simp at hj⟩
  unfold srcD at h
  split at h <;> first | (cases h; done) | skip
  · rename_i cs n sz' tag
    split at h <;> cases h
    rename_i e
    subst e
    obtain ⟨A, c, vs, rfl, h1, _, _, _, hA⟩ := hx.lst_inv
    refine ⟨rfl, ?_⟩
    by_cases hne : ys = []
    · subst hne
      have h0 : m * sz' = 0 := by simpa using h1.symm
      cases A with
      | none => exact ⟨#[], rfl, emp, h1⟩
      | some a => exact ⟨#[], by simp [Builtin.firstCells, loadCells, h0, loadCellsFrom], emp, h1⟩
    · obtain ⟨a, rfl, hc⟩ := hA hne
      obtain ⟨arr, k1, k2⟩ := loadCells_RL (P := P) hc (n := m * sz') h1.symm
      exact ⟨arr, k1, k2, h1⟩
  · cases h; cases hx; exact ⟨rfl, #[], rfl, emp, by simp⟩
  · cases h; cases hx
    rename_i A
    refine ⟨rfl, #[], ?_, emp, by simp⟩
    cases A <;> simp [Builtin.firstCells, loadCells, loadCellsFrom]
  · rename_i s
    split at h <;> cases h
    rename_i e
    subst e
    obtain ⟨b, rfl, rfl⟩ := hx.str_inv
    refine ⟨by rw [toList_size]; rfl, (b.data.map fun b => Value.int .u8 b.toNat), ?_, ⟨by simp, fun j v hj => ?_, fun j v d hj hd => ?_⟩, by simp⟩
    · have : b.extract 0 b.data.toList.length = b := by rw [toList_size]; simp
      simp only [Builtin.firstCells, this, Sem.run_pure]
    · rw [Array.getElem?_map] at hj
      cases e : b.data[j]? with
      | none => rw [e] at hj; cases hj
      | some u => rw [e] at hj; cases hj; rfl
    · rw [Array.getElem?_map] at hj
      rw [List.getElem?_map, Array.getElem?_toList] at hd
      cases e : b.data[j]? with
      | none => rw [e] at hj; cases hj
      | some u => rw [e] at hj hd; cases hj; cases hd; exact .int _ _
  · rename_i b off n cap
    split at h <;> first | (cases h; done) | skip
    rename_i cs ty hb
    split at h <;> cases h
    rename_i hle
    cases hx
    obtain ⟨arr, fz, hw, _, hs, ho, hv⟩ := hr.obj b _ hb
    have hlen : ((cs.drop off).take (m * sz)).length = m * sz := by simp; omega
    refine ⟨rfl, ?_⟩
    have hl := loadCells_from (P := P) (w := w) (a := ⟨b, off, none⟩) rfl (vs := fun j => arr.getD (off + j) undef) (m * sz) 0 #[] (fun j _ h2 => by
      rw [cell_of_row _ _ _ _ _ _ hw]
      have : off + j < arr.size := by omega
      simp [Array.getD, this])
    have get : ∀ (j : Nat) (v : Value), (#[] ++ ((List.range' 0 (m * sz)).map fun j => arr.getD (off + j) undef).toArray)[j]? = some v → j < m * sz ∧ arr[off + j]? = some v := by
      intro j v hj
      simp only [Array.empty_append, List.getElem?_toArray, List.getElem?_map] at hj
      cases e : (List.range' 0 (m * sz))[j]? with
      | none => rw [e] at hj; cases hj
      | some q =>
        rw [e] at hj
        have hq := List.getElem?_range'_lt' e
        have hjq : q = j := by
          have := (List.getElem?_eq_some_iff.1 e).2
          simpa using this.symm
        subst hjq
        have : off + q < arr.size := by omega
        simp only [Option.map_some, Option.some.injEq] at hj
        refine ⟨hq, ?_⟩
        rw [Array.getElem?_eq_getElem this, ← hj]
        simp [Array.getD, this]
    refine ⟨_, hl, ⟨by simp; omega, fun j v hj => ho _ _ (get j v hj).2, fun j v d hj hd => ?_⟩, hlen⟩
    obtain ⟨g1, g2⟩ := get j v hj
    rw [List.getElem?_take, if_pos g1, List.getElem?_drop] at hd
    exact hv _ _ _ g2 hd


/-- A row is gone on with, in place. -/
theorem front_put (hr : HR G w H Z) {b n sz m c : Nat} {ty : TypeId} {cs ys : List DV} (hb : H b = some (.front n sz ty)) (hl : VR w H Z (.slice (some ⟨b, 0, none⟩) n c) (.lst cs n sz (some (b, 0))))
    {arr fz} (hw : w.heap[b]? = some (.cells arr ty fz)) (hac : arr.size = c * sz) (hfz : fz.2 ≤ n * sz ∨ arr.size ≤ fz.1) {vs : Array Value} (hv : RL w H Z vs ys) (hy : ys.length = m * sz) (hroom : n + m ≤ c) :
    ∃ w', (storeCells ⟨b, n * sz, none⟩ vs.toList 0).run P w = .ok () w' ∧ HR G w' (H.upd b (some (.front (n + m) sz ty))) Z ∧ Ext w H Z w' (H.upd b (some (.front (n + m) sz ty))) Z ∧
      VR w' (H.upd b (some (.front (n + m) sz ty))) Z (.slice (some ⟨b, 0, none⟩) (n + m) c) (.lst (cs ++ ys) (n + m) sz (some (b, 0))) := by
  have hd := hr.dom b _ hb
  have hvs := hv.size
  have hnm : n * sz + m * sz ≤ arr.size := by rw [← Nat.add_mul, hac]; exact Nat.mul_le_mul_right _ hroom
  have hle : n * sz + vs.toList.length ≤ arr.toList.length := by simp; omega
  have hrun := run_storeCells' (P := P) (b := b) (o := n * sz) (ty := ty) (fz := fz) vs.toList 0 arr w hw hfz (by simp; omega) (fun v hm => by
    obtain ⟨j, hj⟩ := List.getElem?_of_mem hm
    exact hv.one j v (by simpa using hj))
  simp only [Nat.add_zero] at hrun
  generalize harr : (arr.toList.take (n * sz) ++ vs.toList ++ arr.toList.drop (n * sz + vs.toList.length)).toArray = arr' at hrun
  have get : ∀ k, arr'[k]? = if n * sz ≤ k ∧ k < n * sz + ys.length then vs[k - n * sz]? else arr[k]? := by
    intro k
    rw [← harr, List.getElem?_toArray, splice_get hle]
    simp only [Array.length_toList, Array.getElem?_toList, hvs]
  have hsz' : arr'.size = arr.size := by rw [← harr]; simp; omega
  have hnew : (setArr w b arr' ty fz).heap[b]? = some (.cells arr' ty fz) := setArr_self hd.1
  have hx : Ext w H Z (setArr w b arr' ty fz) (H.upd b (some (.front (n + m) sz ty))) Z := {
    size := by rw [setArr_size]; exact Nat.le_refl _
    os := rfl
    tape := rfl
    output := rfl
    imm := fun k hk => by
      have hne : k ≠ b := fun e => hd.2 (e ▸ hk)
      exact ⟨hk, by rw [upd_ne _ _ hne]; exact hr.apart hk, setArr_ne hne⟩
    priv := fun k hk hz hh => by
      have hne : k ≠ b := fun e => by rw [e, hb] at hh; cases hh
      exact ⟨hz, by rw [upd_ne _ _ hne]; exact hh, setArr_ne hne⟩
    frt := fun k f s' ty' hk _ => by
      by_cases e : k = b
      · subst e; rw [upd_self] at hk; cases hk; exact ⟨n, hb, by omega⟩
      · rw [upd_ne _ _ e] at hk; exact ⟨f, hk, Nat.le_refl _⟩
    pre := fun k f s' ty' hk => by
      by_cases e : k = b
      · subst e
        rw [hb] at hk
        cases hk
        refine ⟨.inr ⟨n + m, by omega, upd_self _ _ _⟩, fun a f' ha => ?_⟩
        rw [hw] at ha
        cases ha
        exact ⟨arr', fz, hnew, hsz', fun j hj => by rw [get j, if_neg (by omega)]⟩
      · exact ⟨.inr ⟨f, Nat.le_refl _, by rw [upd_ne _ _ e]; exact hk⟩, fun a f' ha => ⟨a, f', (setArr_ne e).trans ha, rfl, fun _ _ => rfl⟩⟩ }
  refine ⟨_, hrun, ⟨fun k o e => ?_, fun k hk => by rw [setArr_size]; exact hr.zlt k hk, fun k o e => ?_, fun g cs e => (hr.glob g cs e).ext hr hx⟩, hx, ?_⟩
  · rw [setArr_size]
    by_cases h : k = b
    · subst h; exact hd
    · rw [upd_ne _ _ h] at e; exact hr.dom k o e
  · by_cases h : k = b
    · subst h
      rw [upd_self] at e
      cases e
      refine ⟨arr', fz, c, hnew, hroom, by rw [hsz', hac], ?_⟩
      rcases hfz with h | h
      · exact .inl (by rw [Nat.add_mul]; omega)
      · exact .inr (by rw [hsz']; exact h)
    · rw [upd_ne _ _ h] at e
      exact (hr.obj k o e).ext hr hx (setArr_ne h)
  · obtain ⟨A, c', vs0, e0, h1, h2, h4, _, hA⟩ := hl.lst_inv
    cases e0
    have hys := hy
    have hlen : (cs ++ ys).length = (n + m) * sz := by rw [List.length_append, h1, hy, Nat.add_mul]
    have gv : ∀ j, j < (cs ++ ys).length → j < arr'.size := by intro j hj; rw [hlen, Nat.add_mul] at hj; omega
    have hold : ∀ j, j < cs.length → arr[j]? = some (vs0 j) ∧ (vs0 j).oneCell' = true := by
      intro j hj
      obtain ⟨a, ea, hcp⟩ := hA (by intro e; rw [e] at hj; simp at hj)
      cases ea
      have := (hcp.cell j hj).1
      rw [cell_of_row _ _ _ _ _ _ hw] at this
      exact ⟨by simpa using this, hcp.one j hj⟩
    refine .lst _ _ _ _ _ _ (fun j => arr'.getD j undef) hlen hroom (fun j hj => ?_) (fun j hj => ?_) (fun j d hd => ?_) (fun b' off e => ?_)
    · have hlt := gv j hj
      refine ⟨_, rfl, rfl, ?_, .inr ⟨n + m, sz, ty, upd_self _ _ _, by simp; omega⟩⟩
      rw [cell_of_row _ _ _ _ _ _ hnew]
      simp [Array.getD, hlt]
    · have hlt := gv j hj
      have e : arr'.getD j undef = arr'[j] := by simp [Array.getD, hlt]
      have g := get j
      rw [Array.getElem?_eq_getElem hlt] at g
      rw [e]
      split at g
      · exact hv.one _ _ g.symm
      · rename_i hc
        have hjc : j < cs.length := by rw [List.length_append] at hj; omega
        rw [(hold j hjc).1] at g
        have hg : arr'[j] = vs0 j := by simpa using g
        rw [hg]; exact (hold j hjc).2
    · have hj := (List.getElem?_eq_some_iff.1 hd).1
      have hlt := gv j hj
      have e : arr'.getD j undef = arr'[j] := by simp [Array.getD, hlt]
      have g := get j
      rw [Array.getElem?_eq_getElem hlt] at g
      rw [e]
      split at g
      · rename_i hc
        rw [List.getElem?_append_right (by omega)] at hd
        exact (hv.val _ _ _ g.symm (by rw [h1] at hd; exact hd)).ext hr hx
      · rename_i hc
        have hjc : j < cs.length := by rw [List.length_append] at hj; omega
        rw [(hold j hjc).1] at g
        rw [List.getElem?_append_left hjc] at hd
        have := h4 j d hd
        have hg : arr'[j] = vs0 j := by simpa using g
        rw [hg]; exact this.ext hr hx
    · cases e
      refine ⟨by rw [setArr_size]; exact hd.1, fun f sz' ty' hf => ?_⟩
      rw [upd_self] at hf
      cases hf
      exact ⟨by omega, fun _ => ⟨rfl, by simp, arr', fz, hnew, by rw [hsz', hac]; simp⟩⟩


theorem run_app_room {t t' ty : TypeId} {i : TypeInfo} (hu : P.underlying t = some (.slice ty)) (ht : (∃ e, P.underlying t' = some (.slice e)) ∨ P.underlying t' = some .string) (hi : P.info? ty = some i) {a : Addr} {n c m : Nat} {x : Value}
    {vs : Array Value} (hl : (Builtin.lenOf x).run P w = .ok m w) (hf : (Builtin.firstCells i.size m x).run P w = .ok vs w) (hroom : n + m ≤ c) {w' : World} (hs : (storeCells (a.add (n * i.size)) vs.toList).run P w = .ok () w') (tt : TypeId) :
    (Builtin.append_ #[t, t'] tt #[.slice (some a) n c, x]).run P w = .ok (.slice (some a) (n + m) c) w' := by
  rcases ht with ⟨e, hd⟩ | hd <;> simp [Builtin.append_, run_underlying hu, run_underlying hd, run_sizeOf hi, hl, hroom, hf, hs]

theorem run_app_nothing {t t' ty : TypeId} {i : TypeInfo} (hu : P.underlying t = some (.slice ty)) (ht : (∃ e, P.underlying t' = some (.slice e)) ∨ P.underlying t' = some .string) (hi : P.info? ty = some i) {A : Option Addr} {x : Value}
    {vs : Array Value} (hl : (Builtin.lenOf x).run P w = .ok 0 w) (hf : (Builtin.firstCells i.size 0 x).run P w = .ok vs w) (hv : vs = #[]) (tt : TypeId) :
    (Builtin.append_ #[t, t'] tt #[.slice A 0 0, x]).run P w = .ok (.slice A 0 0) w := by
  subst hv
  rcases ht with ⟨e, hd⟩ | hd <;> cases A <;> simp [Builtin.append_, run_underlying hu, run_underlying hd, run_sizeOf hi, hl, hf, storeCells]

theorem run_app_grow {t t' ty : TypeId} {i : TypeInfo} {z0 : Value} (hu : P.underlying t = some (.slice ty)) (ht : (∃ e, P.underlying t' = some (.slice e)) ∨ P.underlying t' = some .string) (hi : P.info? ty = some i) (hz : i.zero = some z0)
    {A : Option Addr} {n c m : Nat} {x : Value} {os vs : Array Value} (hl : (Builtin.lenOf x).run P w = .ok m w) (ho : (Builtin.firstCells i.size n (.slice A n c)).run P w.drew = .ok os w.drew)
    (hf : (Builtin.firstCells i.size m x).run P w.drew = .ok vs w.drew) (hroom : ¬ n + m ≤ c) (hb0 : 0 < i.bytes) (hbytes : (n + m) * i.bytes ≤ 140737488355328) (tt : TypeId) :
    ∃ cap, n + m ≤ cap ∧ (Builtin.append_ #[t, t'] tt #[.slice A n c, x]).run P w =
      .ok (.slice (some ⟨w.heap.size, 0, none⟩) (n + m) cap) (w.drew.alloc (.cells (os ++ vs ++ Builtin.zeroCells z0.cells (cap - (n + m))) ty)) := by
  have h1 : ¬ (281474976710656 < Builtin.nextslicecap (n + m) c * i.bytes) := by have := growslice_fits (need := n + m) (old := c) (by omega) hbytes; omega
  have hle : n + m ≤ (n + m) * i.bytes := Nat.le_mul_of_pos_right _ hb0
  have hb1 : ¬ i.bytes = 0 := by omega
  refine ⟨grownCap w (n + m) c ty, grownCap_ge w _ _ _, ?_⟩
  rcases ht with ⟨e, hd⟩ | hd <;>
    simp [Builtin.append_, run_underlying hu, run_underlying hd, run_sizeOf hi, hl, hroom, hf, ho, typeInfo, hi, hb1, h1, zeroValue, hz, Question.forced, newRow, grownCap]

theorem drew_same (w : World) : Same w w.drew := ⟨rfl, rfl, rfl, rfl⟩

theorem drewHR (hr : HR G w H Z) : HR G w.drew H Z ∧ Ext w H Z w.drew H Z :=
  have hx := (drew_same w).ext hr
  ⟨hr.of_ext hx fun _ _ _ => rfl, hx⟩

/-- How an append is run: what it is handed. -/
theorem app_exec {o : Oper} {c : Call} {s u : Operand} {t t' : TypeId} {a : Act} {v : Value} {w' : World} (ho : o.op = .call c) (hcal : c.callee = .builtin .append) (hargs : c.args = #[s, u]) (htys : c.argTypes = #[t, t'])
    (h : (Builtin.append_ #[t, t'] o.type #[a.eval s, a.eval u]).run P w = .ok v w') : (execOp a.eval o).run P w = .ok (.value v) w' := by
  simp only [execOp, ho, resolve, hcal, hargs, htys, List.map_toArray, List.map_cons, List.map_nil, invoke, builtin, Sem.run_bind, Sem.run_pure, Result.andThen_ok, h]

theorem ST.app_nothing {ty sz bytes : Nat} {x y : X} {ys : List DV} {dst : Option Nat} {K : Fr → Hp → Prop} {Q : EX → Fr → Hp → Prop} {fr : Fr} {H : Hp} (hx' : XV G fr x = .nils ∨ XV G fr x = .zc) (hy : srcD H sz (XV G fr y) = some (ys, 0))
    (h : K (fr.put dst (XV G fr x)) H) : ST P G r N (.app ty sz bytes x y) dst K Q fr H := by
  intro n base w Z a o hc hx hd hr hf
  obtain ⟨c, s, u, t, t', z, i, ho, hcal, hargs, htys, hu, ht, hz, hi, rfl, rfl, hp, hb0, rfl, rfl⟩ := cOp_app hc
  obtain ⟨i', z0, hi', hz0, hz1, hz2, hz3⟩ := zeroT_sound hz
  rw [hi] at hi'; cases hi'
  simp only [opX, List.all_cons, List.all_nil, Bool.and_true, Bool.and_eq_true] at hx
  have hs := cX_sound hr hf hx.1
  obtain ⟨g1, vs, g2, g3, g4⟩ := src_sound (P := P) hr (cX_sound hr hf hx.2) hy
  have hvs : vs = #[] := by
    have := g3.size
    rw [g4] at this
    simpa using this
  have hsv : ∃ A, a.eval s = .slice A 0 0 := by
    rcases hx' with e | e <;> rw [e] at hs
    · generalize a.eval s = q at hs; cases hs; exact ⟨_, rfl⟩
    · generalize a.eval s = q at hs; cases hs; exact ⟨_, rfl⟩
  obtain ⟨A, hA⟩ := hsv
  rw [hz2] at g2
  refine wpIn_value (v := .slice A 0 0) (by rw [ho]; intro c e; cases e) (app_exec ho hcal hargs htys (by rw [hA]; exact run_app_nothing hu ht hi g1 g2 hvs _)) ⟨_, H, Z, h, hr, ?_, .refl hr⟩
  rw [hd]
  exact hf.putO (by rw [← hA]; exact hs)

theorem ST.app_new {ty sz bytes m : Nat} {x y : X} {ys : List DV} {dst : Option Nat} {K : Fr → Hp → Prop} {Q : EX → Fr → Hp → Prop} {fr : Fr} {H : Hp} (hx' : XV G fr x = .nils ∨ XV G fr x = .zc) (hy : srcD H sz (XV G fr y) = some (ys, m))
    (hm : 0 < m) (hbd : m * bytes ≤ 140737488355328) (h : ∀ b, H b = none → K (fr.put dst (.lst ys m sz (some (b, 0)))) (H.upd b (some (.front m sz ty)))) : ST P G r N (.app ty sz bytes x y) dst K Q fr H := by
  intro n base w Z a o hc hx hd hr hf
  obtain ⟨c, s, u, t, t', z, i, ho, hcal, hargs, htys, hu, ht, hz, hi, rfl, rfl, hp, hb0, rfl, rfl⟩ := cOp_app hc
  obtain ⟨i', z0, hi', hz0, hz1, hz2, hz3⟩ := zeroT_sound hz
  rw [hi] at hi'; cases hi'
  simp only [opX, List.all_cons, List.all_nil, Bool.and_true, Bool.and_eq_true] at hx
  have hs := cX_sound hr hf hx.1
  obtain ⟨g1, _⟩ := src_sound (P := P) hr (cX_sound hr hf hx.2) hy
  obtain ⟨hr1, hx1⟩ := drewHR hr
  obtain ⟨_, vs, g2, g3, g4⟩ := src_sound (P := P) hr1 ((cX_sound hr hf hx.2).ext hr hx1) hy
  have hsv : ∃ A, a.eval s = .slice A 0 0 := by
    rcases hx' with e | e <;> rw [e] at hs
    · generalize a.eval s = q at hs; cases hs; exact ⟨_, rfl⟩
    · generalize a.eval s = q at hs; cases hs; exact ⟨_, rfl⟩
  obtain ⟨A, hA⟩ := hsv
  rw [hz2] at g2
  have hfs := g3.size
  obtain ⟨cap, hcap, hrun⟩ := run_app_grow (A := A) (n := 0) (c := 0) hu ht hi hz0 g1 (os := #[]) (by cases A <;> simp [Builtin.firstCells, loadCells, loadCellsFrom]) g2 (by omega) hb0 (by simpa using hbd) o.type
  simp only [Nat.zero_add, Array.empty_append] at hrun hcap
  have hzs : (Builtin.zeroCells z0.cells (cap - m)).size = (cap - m) * z.2 := by rw [size_zeroCells, hz3.2, hz2]
  have hpre : ∀ (j : Nat) (v : Value), j < ys.length → (vs ++ Builtin.zeroCells z0.cells (cap - m))[j]? = some v → vs[j]? = some v := by
    intro j v hj hv
    rw [Array.getElem?_append_left (by omega)] at hv
    exact hv
  obtain ⟨h1, h2, h3⟩ := alloc_front hr1 ty (n := m) (sz := z.2) (cap := cap) (arr := vs ++ Builtin.zeroCells z0.cells (cap - m)) g4 (by rw [Array.size_append, hzs, hfs, g4, ← Nat.add_mul]; congr 1; omega) hcap
    (fun j v hj hv => g3.one j v (hpre j v hj hv)) (fun j v d hv hdj => g3.val j v d (hpre j v (List.getElem?_eq_some_iff.1 hdj).1 hv) hdj)
  refine wpIn_value (by rw [ho]; intro c e; cases e) (app_exec ho hcal hargs htys (by rw [hA]; exact hrun)) ⟨_, _, Z, h w.heap.size (hr.free (Nat.le_refl _)), h1, ?_, hx1.trans h2⟩
  rw [hd]
  exact (hf.ext hr (hx1.trans h2)).putO h3

theorem ST.app_own {ty sz bytes n m b : Nat} {x y : X} {cs ys : List DV} {dst : Option Nat} {K : Fr → Hp → Prop} {Q : EX → Fr → Hp → Prop} {fr : Fr} {H : Hp} (hx' : XV G fr x = .lst cs n sz (some (b, 0))) (hb : H b = some (.front n sz ty))
    (hy : srcD H sz (XV G fr y) = some (ys, m)) (hbd : (n + m) * bytes ≤ 140737488355328)
    (h : ∀ b', b' = b ∨ H b' = none → K (fr.put dst (.lst (cs ++ ys) (n + m) sz (some (b', 0)))) ((H.upd b none).upd b' (some (.front (n + m) sz ty)))) : ST P G r N (.app ty sz bytes x y) dst K Q fr H := by
  intro n0 base w Z a o hc hx hd hr hf
  obtain ⟨c, s, u, t, t', z, i, ho, hcal, hargs, htys, hu, ht, hz, hi, rfl, rfl, hp, hb0, rfl, rfl⟩ := cOp_app hc
  obtain ⟨i', z0, hi', hz0, hz1, hz2, hz3⟩ := zeroT_sound hz
  rw [hi] at hi'; cases hi'
  simp only [opX, List.all_cons, List.all_nil, Bool.and_true, Bool.and_eq_true] at hx
  have hs := cX_sound hr hf hx.1
  rw [hx'] at hs
  obtain ⟨A, cp, vs0, hAe, k1, k2, k4, kt, kA⟩ := hs.lst_inv
  obtain ⟨_, kt2⟩ := kt b 0 rfl
  obtain ⟨_, kt3⟩ := kt2 n z.2 ty hb
  obtain ⟨_, rfl, arr, fz, kw, ksz⟩ := kt3 (by omega)
  simp only [Nat.zero_mul, Nat.zero_add] at hAe ksz
  rw [hAe] at hs
  obtain ⟨g1, vs, g2, g3, g4⟩ := src_sound (P := P) hr (cX_sound hr hf hx.2) hy
  rw [hz2] at g2
  by_cases hroom : n + m ≤ cp
  · obtain ⟨arr', fz', cap', e1, _, _, e4⟩ := hr.obj b _ hb
    rw [kw] at e1
    cases e1
    obtain ⟨w', h1, h2, h3, h4⟩ := front_put (P := P) hr hb hs kw ksz e4 g3 g4 hroom
    have hup : (H.upd b none).upd b (some (.front (n + m) z.2 ty)) = H.upd b (some (.front (n + m) z.2 ty)) := by
      funext q; simp only [Hp.upd]; split <;> rfl
    have hst : (storeCells ((⟨b, 0, none⟩ : Addr).add (n * i.size)) vs.toList).run P w = .ok () w' := by
      rw [add_off rfl, ← hz2]; simpa using h1
    refine wpIn_value (by rw [ho]; intro c e; cases e) (app_exec ho hcal hargs htys (by rw [hAe]; exact run_app_room hu ht hi g1 g2 hroom hst _)) ⟨_, _, Z, h b (.inl rfl), by rw [hup]; exact h2, ?_, by rw [hup]; exact h3⟩
    rw [hd, hup]
    exact (hf.ext hr h3).putO h4
  · obtain ⟨hr1, hx1⟩ := drewHR hr
    obtain ⟨_, vs', g2', g3', g4'⟩ := src_sound (P := P) hr1 ((cX_sound hr hf hx.2).ext hr hx1) hy
    have hsrc : srcD H z.2 (.lst cs n z.2 (some (b, 0))) = some (cs, n) := by simp [srcD]
    obtain ⟨_, os, f2, f3, f4⟩ := src_sound (P := P) hr1 (hs.ext hr hx1) hsrc
    rw [hz2] at g2' f2
    obtain ⟨cap, hcap, hrun⟩ := run_app_grow hu ht hi hz0 g1 f2 g2' hroom hb0 hbd o.type
    have hzs : (Builtin.zeroCells z0.cells (cap - (n + m))).size = (cap - (n + m)) * z.2 := by rw [size_zeroCells, hz3.2, hz2]
    have hos := f3.size
    have hvs := g3'.size
    have hcat : RL w.drew H Z (os ++ vs') (cs ++ ys) := by
      refine ⟨by simp; omega, fun j v hj => ?_, fun j v d hj hdj => ?_⟩
      · rw [Array.getElem?_append] at hj
        split at hj
        · exact f3.one _ _ hj
        · exact g3'.one _ _ hj
      · rw [Array.getElem?_append] at hj
        rw [List.getElem?_append, ← hos] at hdj
        split at hj
        · rename_i hc'; rw [if_pos hc'] at hdj; exact f3.val _ _ _ hj hdj
        · rename_i hc'; rw [if_neg hc'] at hdj; exact g3'.val _ _ _ hj hdj
    have hcl : (cs ++ ys).length = (n + m) * z.2 := by rw [List.length_append, f4, g4', Nat.add_mul]
    have hpre : ∀ (j : Nat) (v : Value), j < (cs ++ ys).length → (os ++ vs' ++ Builtin.zeroCells z0.cells (cap - (n + m)))[j]? = some v → (os ++ vs')[j]? = some v := by
      intro j v hj hv
      rw [Array.getElem?_append_left (by rw [hcat.size]; exact hj)] at hv
      exact hv
    obtain ⟨h1, h2, h3⟩ := alloc_front hr1 ty (n := n + m) (sz := z.2) (cap := cap) (arr := os ++ vs' ++ Builtin.zeroCells z0.cells (cap - (n + m))) hcl (by rw [Array.size_append, hzs, hcat.size, hcl, ← Nat.add_mul]; congr 1; omega) hcap
      (fun j v hj hv => hcat.one j v (hpre j v hj hv)) (fun j v d hv hdj => hcat.val j v d (hpre j v (List.getElem?_eq_some_iff.1 hdj).1 hv) hdj)
    have hbs : b ≠ w.heap.size := by have := (hr.dom b _ hb).1; omega
    have hsub : SubH ((H.upd b none).upd w.heap.size (some (.front (n + m) z.2 ty))) (H.upd w.heap.size (some (.front (n + m) z.2 ty))) := by
      intro q o' e
      simp only [Hp.upd] at e ⊢
      split at e
      · rename_i hq; rw [if_pos hq]; exact e
      · rename_i hq
        rw [if_neg hq]
        split at e
        · cases e
        · exact e
    have hxx := (hx1.trans h2).drop hsub
    refine wpIn_value (by rw [ho]; intro c e; cases e) (app_exec ho hcal hargs htys (by rw [hAe]; exact hrun)) ⟨_, _, _, h w.heap.size (.inr (hr.free (Nat.le_refl _))), h1.drop hsub, ?_, hxx⟩
    rw [hd]
    exact (hf.ext hr hxx).putO (h3.drop hsub)
end
end Go.Run
