/- Less told, rows told cell by cell, deferred calls. -/
import Derived.Test.YtfimjbflfkdkkaaDoorWD
import Derived.RecoverIn
/- Less is told; copy; a function that defers one call that recovers. -/
namespace Go.Run
open Go Go.RowKit
/-- The first range over a function in code: what it assigns, its body. -/
def rngOf : CC → Option (CC × CC)
  | .rng _ _ a b => some (a, b)
  | .seq x y => match rngOf x with
    | some p => some p
    | none => rngOf y
  | .block _ c => rngOf c
  | .loop c => rngOf c
  | .scp c => rngOf c
  | .cond _ x y => match rngOf x with
    | some p => some p
    | none => rngOf y
  | _ => none
def rngA (c : CC) : CC := match rngOf c with
  | some p => p.1
  | none => .skip
def rngB (c : CC) : CC := match rngOf c with
  | some p => p.2
  | none => .skip

def ccSnd : CC → CC
  | .seq _ b => b
  | c => c
def ccFst : CC → CC
  | .seq a _ => a
  | c => c
def ccIn : CC → CC
  | .block _ c => c
  | .loop c => c
  | .scp c => c
  | c => c

def ccElse : CC → CC
  | .cond _ _ b => b
  | c => c
def ccThen : CC → CC
  | .cond _ a _ => a
  | c => c

section
variable {P : Program} {G : Gl} {r : Option Nat} {N : Nat} {H : Hp}

theorem DLe.trans {a b c : DV} (h : DLe a b) (k : DLe b c) : DLe a c := fun w H Z v hv => k w H Z v (h w H Z v hv)
theorem DLe.junk (a : DV) : DLe a .junk := fun _ _ _ v _ => .junk v
theorem DLe.agg {cs cs' : List DV} (hl : cs.length = cs'.length) (h : ∀ (j : Nat) (d d' : DV), cs[j]? = some d → cs'[j]? = some d' → DLe d d') : DLe (.agg cs) (.agg cs') := by
  intro w H Z v hv
  cases hv with
  | agg vs cs e ho hv =>
    refine .agg _ _ (e.trans hl) ho fun j v d' h1 h2 => ?_
    have hj : j < cs.length := by rw [hl]; exact (List.getElem?_eq_some_iff.1 h2).1
    exact h j _ d' (List.getElem?_eq_getElem hj) h2 w H Z v (hv j v _ h1 (List.getElem?_eq_getElem hj))
theorem DLe.tup {cs cs' : List DV} (hl : cs.length = cs'.length) (h : ∀ (j : Nat) (d d' : DV), cs[j]? = some d → cs'[j]? = some d' → DLe d d') : DLe (.tup cs) (.tup cs') := by
  intro w H Z v hv
  cases hv with
  | tup vs cs e hv =>
    refine .tup _ _ (e.trans hl) fun j v d' h1 h2 => ?_
    have hj : j < cs.length := by rw [hl]; exact (List.getElem?_eq_some_iff.1 h2).1
    exact h j _ d' (List.getElem?_eq_getElem hj) h2 w H Z v (hv j v _ h1 (List.getElem?_eq_getElem hj))
theorem DLe.tag {cs : List DV} {n sz : Nat} {tag : Option (Nat × Nat)} : DLe (.lst cs n sz tag) (.lst cs n sz none) := by
  intro w H Z v hv
  cases hv with
  | lst A n c sz cs tag vs h1 h2 h3 ho h4 h5 => exact .lst A n c sz cs none vs h1 h2 h3 ho h4 (fun b off e => by cases e)
theorem DLe.nils {sz : Nat} : DLe .nils (.lst [] 0 sz none) := by
  intro w H Z v hv
  cases hv
  exact .lst none 0 0 sz [] none (fun _ => undef) (by simp) (Nat.le_refl _) (fun j hj => by simp at hj) (fun j hj => by simp at hj) (fun j d h => by simp at h) (fun b off e => by cases e)

/-- Pairs of cells, one told by less than the other. -/
inductive DLes : List DV → List DV → Prop
  | nil : DLes [] []
  | cons {a b : DV} {l m : List DV} : DLe a b → DLes l m → DLes (a :: l) (b :: m)
theorem DLes.len {l m : List DV} (h : DLes l m) : l.length = m.length := by
  induction h with
  | nil => rfl
  | cons _ _ ih => simp [ih]
theorem DLes.at {l m : List DV} (h : DLes l m) : ∀ (j : Nat) (d d' : DV), l[j]? = some d → m[j]? = some d' → DLe d d' := by
  induction h with
  | nil => intro j d d' h; simp at h
  | cons a _ ih =>
    intro j d d' h1 h2
    cases j with
    | zero => simp at h1 h2; subst h1; subst h2; exact a
    | succ j => exact ih j d d' (by simpa using h1) (by simpa using h2)
theorem DLes.refl : ∀ (l : List DV), DLes l l
  | [] => .nil
  | d :: l => .cons (DLe.refl d) (DLes.refl l)
theorem DLes.agg {l m : List DV} (h : DLes l m) : DLe (.agg l) (.agg m) := DLe.agg h.len h.at
theorem DLes.tup {l m : List DV} (h : DLes l m) : DLe (.tup l) (.tup m) := DLe.tup h.len h.at

/-- A call's answer, told by less. -/
theorem CALL.le {f : FuncId} {ds : List DV} {Kr Kp Kr' Kp' : DV → Hp → Prop} (h : CALL P G f ds H Kr Kp) (h1 : ∀ d H', Kr d H' → ∃ d', DLe d d' ∧ Kr' d' H') (h2 : ∀ d H', Kp d H' → Kp' d H') : CALL P G f ds H Kr' Kp' := by
  refine ⟨h.1, fun w Z vs hr hs hv => (h.2 w Z vs hr hs hv).mono fun e w' he => ?_⟩
  cases e with
  | returned v =>
    obtain ⟨d, H', Z', k, hvd, rest⟩ := he
    obtain ⟨d', k1, k2⟩ := h1 d H' k
    exact ⟨d', H', Z', k2, k1 _ _ _ _ hvd, rest⟩
  | panicked ch => obtain ⟨v, d, H', Z', e1, k, rest⟩ := he; exact ⟨v, d, H', Z', e1, h2 _ _ k, rest⟩
  | outgrown => exact he

/-- A frame, told by less. -/
theorem FR.le {w : World} {Z : Zn} {base : BS} {a : Act} {fr fr' : Fr} (hf : FR w H Z base N a fr) (h : ∀ t, DLe (fr t) (fr' t)) : FR w H Z base N a fr' :=
  ⟨hf.size, fun t ht => h t _ _ _ _ (hf.vals t ht), hf.marks, hf.low⟩
theorem RG.le {l : List Ins} {Q : EX → Fr → Hp → Prop} {fr fr' : Fr} (h : ∀ t, DLe (fr t) (fr' t)) (k : RG P G r N l Q fr' H) : RG P G r N l Q fr H :=
  fun n base w Z a ops is hl hr hf => k n base w Z a ops is hl hr (hf.le h)
theorem RG.leSet {l : List Ins} {Q : EX → Fr → Hp → Prop} {fr : Fr} {dst : Option Nat} {d d' : DV} (h : DLe d d') (k : RG P G r N l Q (fr.put dst d') H) : RG P G r N l Q (fr.put dst d) H := by
  refine RG.le (fun t => ?_) k
  cases dst with
  | none => exact DLe.refl _
  | some u =>
    simp only [Fr.put, Fr.set]
    cases Nat.beq t u
    · exact DLe.refl _
    · exact h

/-- Only these slots are told any more. -/
theorem RG.to {is : List Ins} {Q : EX → Fr → Hp → Prop} {fr : Fr} (l : List (Nat × DV)) (h : Agrees fr l) (k : RG P G r N is Q (frOf l) H) : RG P G r N is Q fr H := RG.keep (h.weak l) k

/-- A variable of one cell is written. -/
theorem RG.sto1 {b : Nat} {g : Option (Nat × Bool)} {dst : Option Nat} {x y : X} {l : List Ins} {d old : DV} {ty : TypeId} {Q : EX → Fr → Hp → Prop} {fr : Fr} (hg : GOk g fr) (hx : XV G fr x = .ptr b 0) (hb : H b = some (.cells [old] ty))
    (hy : XV G fr y = d) (hc : cellsD d = some [d]) (k : RG P G r N l Q (fr.put dst .junk) (H.upd b (some (.cells [d] ty)))) : RG P G r N (⟨dst, g, .st 1 x y⟩ :: l) Q fr H :=
  RG.sto hg hx hb hy hc rfl (by exact Nat.le_refl _) k

/-- One after the other, with what is told between. -/
theorem AC.seqI {x y : CC} {I : Fr → Hp → Prop} {Q : EX → Fr → Hp → Prop} {fr : Fr} (h : AC P G r N x (Nx I Q) fr H) (k : ∀ fr' H', I fr' H' → AC P G r N y Q fr' H') : AC P G r N (.seq x y) Q fr H :=
  AC.seq (AC.mono h fun e fr' H' hq => by
    cases e with
    | normal => exact k fr' H' hq
    | exit id => exact hq
    | ret => exact hq
    | panic d => exact hq)
/-- .. where the heap view is known, and some slots are. -/
theorem AC.seqA {x y : CC} {l : List (Nat × DV)} {H' : Hp} {Q : EX → Fr → Hp → Prop} {fr : Fr} (h : AC P G r N x (Nx (fun fr' H2 => H2 = H' ∧ Agrees fr' l) Q) fr H) (k : AC P G r N y Q (frOf l) H') : AC P G r N (.seq x y) Q fr H :=
  AC.seqI h fun fr' H2 ⟨e, hf⟩ => by subst e; exact AC.to l hf k

/-- copy(b[o:o+n], s): no more than there is room for. -/
theorem ST.copyS {c : Call} {x y : Operand} {t e : TypeId} {i : TypeInfo} {b off n cap : Nat} {s : List UInt8} {cs : List DV} {ty : TypeId} {dst : Option Nat} {K : Fr → Hp → Prop} {Q : EX → Fr → Hp → Prop} {fr : Fr}
    (hcal : c.callee = .builtin .copy) (hargs : c.args = #[x, y]) (htys : c.argTypes[0]? = some t) (hu : P.underlying t = some (.slice e)) (hi : P.info? e = some i) (hi1 : i.size = 1)
    (hx' : XV G fr (cX x) = .win b off n cap) (hy' : XV G fr (cX y) = .str s) (hs : s.length ≤ n) (hb : H b = some (.cells cs ty)) (hle : off + s.length ≤ cs.length)
    (h : K (fr.put dst (.int .i64 s.length)) (H.upd b (some (.cells (spliceL off (s.map B8) cs) ty)))) : ST P G r N (.oth (.call c)) dst K Q fr H := by
  intro n0 base w Z a o hc hx hd hr hf
  have ho := cOp_oth hc
  have hxs : XOk N (cX x) = true ∧ XOk N (cX y) = true := by
    have hx2 := List.all_eq_true.1 hx
    have hop : ∀ z, z = x ∨ z = y → cX z ∈ opX (.oth (.call c)) := by
      intro z hz
      simp only [opX, List.mem_map]
      refine ⟨z, ?_, rfl⟩
      simp only [Op.operands, Call.operands, hcal, hargs]
      rcases hz with rfl | rfl <;> simp
    exact ⟨hx2 _ (hop x (.inl rfl)), hx2 _ (hop y (.inr rfl))⟩
  have hp := cX_sound hr hf hxs.1
  rw [hx'] at hp
  have hq := cX_sound hr hf hxs.2
  rw [hy'] at hq
  obtain ⟨h1, arr, h2, h3, _⟩ := src_sound (P := P) hr (sz := 1) (ys := s.map B8) (m := s.length) hq (by simp [srcD])
  obtain ⟨w', k1, k2, k3⟩ := store_cells (P := P) hr hb h3 (off := off) (by simpa using hle)
  have hev : a.eval x = .slice (some ⟨b, off, none⟩) n cap := by
    generalize a.eval x = v at hp
    cases hp; rfl
  have hmin : Nat.min s.length n = s.length := Nat.min_eq_left hs
  refine wpIn_value (v := .int .i64 s.length) (w' := w') (by rw [ho]; intro c e; cases e) ?_ ⟨_, _, Z, h, k2, by rw [hd]; exact (hf.ext hr k3).putO (.int _ _), k3⟩
  have hcopy : (Builtin.copy_ c.argTypes o.type #[a.eval x, a.eval y]).run P w = .ok (.int .i64 s.length) w' := by
    have e0 : (#[Value.slice (some ⟨b, off, none⟩) n cap, a.eval y] : Array Value)[0]? = some (Value.slice (some ⟨b, off, none⟩) n cap) := rfl
    have e1 : (#[Value.slice (some ⟨b, off, none⟩) n cap, a.eval y] : Array Value)[1]? = some (a.eval y) := rfl
    rw [hev]
    simp only [Builtin.copy_, htys, e0, e1, Sem.run_bind, run_underlying hu, Result.andThen_ok, h1, run_sizeOf hi, hi1, hmin, h2, k1, Sem.run_pure]
    rfl
  simp only [execOp, ho, resolve, hcal, hargs, List.map_toArray, List.map_cons, List.map_nil, invoke, builtin, Sem.run_bind, Sem.run_pure, Result.andThen_ok, hcopy]
end
end Go.Run
/- A row that is told cell by cell: append, and how it comes to rest. -/
namespace Go.Run
open Go Go.RowKit
section
variable {P : Program} {G : Gl} {r : Option Nat} {N : Nat} {w : World} {H : Hp} {Z : Zn}

theorem spare_RL {z0 : Value} {size n : Nat} (h : z0.cells.all (·.oneCell') = true ∧ z0.cells.size = size) (hp : 0 < size) : RL w H Z (Builtin.zeroCells z0.cells n) (List.replicate (n * size) .junk) := by
  have hz := zeros_RL (w := w) (H := H) (Z := Z) (n := n) h hp
  have he : Builtin.zeroCells z0.cells n = (Array.range (n * size)).map (z0.cells[· % z0.cells.size]!) := by rw [Builtin.zeroCells, h.2]
  rw [he]
  refine ⟨by simp, hz.one, fun j v d hj hd => ?_⟩
  have : d = .junk := by
    have := List.mem_of_getElem? hd
    exact (List.mem_replicate.1 this).2
  rw [this]; exact .junk _

theorem RL.cat {a b : Array Value} {cs ds : List DV} (h : RL w H Z a cs) (k : RL w H Z b ds) : RL w H Z (a ++ b) (cs ++ ds) := by
  have h1 := h.size
  refine ⟨by rw [Array.size_append, List.length_append, h.size, k.size], fun j v hj => ?_, fun j v d hj hdj => ?_⟩
  · rw [Array.getElem?_append] at hj
    split at hj
    · exact h.one _ _ hj
    · exact k.one _ _ hj
  · rw [Array.getElem?_append] at hj
    rw [List.getElem?_append, ← h1] at hdj
    split at hj
    · rename_i hc'; rw [if_pos hc'] at hdj; exact h.val _ _ _ hj hdj
    · rename_i hc'; rw [if_neg hc'] at hdj; exact k.val _ _ _ hj hdj

theorem ST.app_w0 {ty sz bytes m : Nat} {x y : X} {ys : List DV} {dst : Option Nat} {K : Fr → Hp → Prop} {Q : EX → Fr → Hp → Prop} {fr : Fr} (hx' : XV G fr x = .nils) (hy : srcD H sz (XV G fr y) = some (ys, m))
    (hm : 0 < m) (hbd : m * bytes ≤ 140737488355328)
    (h : ∀ b cap rest, H b = none → m ≤ cap → (ys ++ rest).length = cap * sz → K (fr.put dst (.win b 0 m cap)) (H.upd b (some (.cells (ys ++ rest) ty)))) : ST P G r N (.app ty sz bytes x y) dst K Q fr H := by
  intro n base w Z a o hc hx hd hr hf
  obtain ⟨c, s, u, t, t', z, i, ho, hcal, hargs, htys, hu, ht, hz, hi, rfl, rfl, hp, hb0, rfl, rfl⟩ := cOp_app hc
  obtain ⟨i', z0, hi', hz0, hz1, hz2, hz3⟩ := zeroT_sound hz
  rw [hi] at hi'; cases hi'
  simp only [opX, List.all_cons, List.all_nil, Bool.and_true, Bool.and_eq_true] at hx
  have hs := cX_sound hr hf hx.1
  rw [hx'] at hs
  obtain ⟨g1, _⟩ := src_sound (P := P) hr (cX_sound hr hf hx.2) hy
  obtain ⟨hr1, hx1⟩ := drewHR hr
  obtain ⟨_, vs, g2, g3, g4⟩ := src_sound (P := P) hr1 ((cX_sound hr hf hx.2).ext hr hx1) hy
  have hA : a.eval s = .slice none 0 0 := by
    generalize a.eval s = q at hs; cases hs; rfl
  rw [hz2] at g2
  obtain ⟨cap, hcap, hrun⟩ := run_app_grow (A := none) (n := 0) (c := 0) hu ht hi hz0 g1 (os := #[]) (by simp [Builtin.firstCells]) g2 (by omega) hb0 (by simpa using hbd) o.type
  simp only [Nat.zero_add, Array.empty_append] at hrun hcap
  have hsp := spare_RL (w := w.drew) (H := H) (Z := Z) (n := cap - m) ⟨hz3.1, hz3.2.trans hz2.symm⟩ (hz2 ▸ hp)
  have hcat := g3.cat hsp
  have hsz := hcat.size
  obtain ⟨k1, k2⟩ := alloc_cells hr1 hcat ty
  have hlen : (ys ++ List.replicate ((cap - m) * z.2) DV.junk).length = cap * z.2 := by
    rw [List.length_append, g4, List.length_replicate, ← Nat.add_mul]; congr 1; omega
  refine wpIn_value (by rw [ho]; intro c e; cases e) (app_exec ho hcal hargs htys (by rw [hA]; exact hrun)) ⟨_, _, Z, h w.heap.size cap _ (hr.free (Nat.le_refl _)) hcap hlen, k1, ?_, hx1.trans k2⟩
  rw [hd]
  exact (hf.ext hr (hx1.trans k2)).putO (.win _ _ _ _ hcap)

theorem ST.app_w {ty sz bytes n m cap b : Nat} {x y : X} {cs rest ys : List DV} {dst : Option Nat} {K : Fr → Hp → Prop} {Q : EX → Fr → Hp → Prop} {fr : Fr} (hx' : XV G fr x = .win b 0 n cap) (hb : H b = some (.cells (cs ++ rest) ty))
    (hcs : cs.length = n * sz) (hall : (cs ++ rest).length = cap * sz) (hy : srcD H sz (XV G fr y) = some (ys, m)) (hbd : (n + m) * bytes ≤ 140737488355328)
    (h : ∀ b' cap' rest', (b' = b ∨ H b' = none) → n + m ≤ cap' → (cs ++ ys ++ rest').length = cap' * sz → K (fr.put dst (.win b' 0 (n + m) cap')) ((H.upd b none).upd b' (some (.cells (cs ++ ys ++ rest') ty)))) : ST P G r N (.app ty sz bytes x y) dst K Q fr H := by
  intro n0 base w Z a o hc hx hd hr hf
  obtain ⟨c, s, u, t, t', z, i, ho, hcal, hargs, htys, hu, ht, hz, hi, rfl, rfl, hp, hb0, rfl, rfl⟩ := cOp_app hc
  obtain ⟨i', z0, hi', hz0, hz1, hz2, hz3⟩ := zeroT_sound hz
  rw [hi] at hi'; cases hi'
  simp only [opX, List.all_cons, List.all_nil, Bool.and_true, Bool.and_eq_true] at hx
  have hs := cX_sound hr hf hx.1
  rw [hx'] at hs
  have hA : a.eval s = .slice (some ⟨b, 0, none⟩) n cap ∧ n ≤ cap := by
    generalize a.eval s = q at hs; cases hs; exact ⟨rfl, by assumption⟩
  obtain ⟨hA, hnc⟩ := hA
  obtain ⟨g1, vs, g2, g3, g4⟩ := src_sound (P := P) hr (cX_sound hr hf hx.2) hy
  rw [hz2] at g2
  by_cases hroom : n + m ≤ cap
  · have hle : n * z.2 + ys.length ≤ (cs ++ rest).length := by
      rw [hall, g4, ← Nat.add_mul]; exact Nat.mul_le_mul_right _ hroom
    obtain ⟨w', h1, h2, h3⟩ := store_cells (P := P) hr hb g3 (off := n * z.2) hle
    have hsp : spliceL (n * z.2) ys (cs ++ rest) = cs ++ ys ++ rest.drop ys.length := by
      rw [spliceL, ← hcs, List.take_left, ← List.drop_drop, List.drop_left]
    rw [hsp] at h2 h3
    have hup : (H.upd b none).upd b (some (.cells (cs ++ ys ++ rest.drop ys.length) ty)) = H.upd b (some (.cells (cs ++ ys ++ rest.drop ys.length) ty)) := by
      funext q; simp only [Hp.upd]; split <;> rfl
    have hlen : (cs ++ ys ++ rest.drop ys.length).length = cap * z.2 := by
      rw [← hall]
      simp only [List.length_append, List.length_drop] at hle ⊢
      omega
    have hst : (storeCells ((⟨b, 0, none⟩ : Addr).add (n * i.size)) vs.toList).run P w = .ok () w' := by
      rw [add_off rfl, ← hz2]; simpa using h1
    refine wpIn_value (by rw [ho]; intro c e; cases e) (app_exec ho hcal hargs htys (by rw [hA]; exact run_app_room hu ht hi g1 g2 hroom hst _)) ⟨_, _, Z, h b cap _ (.inl rfl) hroom hlen, by rw [hup]; exact h2, ?_, by rw [hup]; exact h3⟩
    rw [hd, hup]
    exact (hf.ext hr h3).putO (.win _ _ _ _ hroom)
  · obtain ⟨hr1, hx1⟩ := drewHR hr
    obtain ⟨_, vs', g2', g3', g4'⟩ := src_sound (P := P) hr1 ((cX_sound hr hf hx.2).ext hr hx1) hy
    have hsrc : srcD H z.2 (.win b 0 n cap) = some (cs, n) := by
      have hle : 0 + n * z.2 ≤ (cs ++ rest).length := by rw [hall]; simpa using Nat.mul_le_mul_right z.2 hnc
      simp only [srcD, hb, if_pos hle, List.drop_zero]
      rw [← hcs, List.take_left]
    obtain ⟨_, os, f2, f3, f4⟩ := src_sound (P := P) hr1 (hs.ext hr hx1) hsrc
    rw [hz2] at g2' f2
    rw [hA] at f2
    obtain ⟨cap', hcap, hrun⟩ := run_app_grow hu ht hi hz0 g1 f2 g2' hroom hb0 hbd o.type
    have hsp := spare_RL (w := w.drew) (H := H) (Z := Z) (n := cap' - (n + m)) ⟨hz3.1, hz3.2.trans hz2.symm⟩ (hz2 ▸ hp)
    have hcat := (f3.cat g3').cat hsp
    obtain ⟨k1, k2⟩ := alloc_cells hr1 hcat ty
    have hlen : (cs ++ ys ++ List.replicate ((cap' - (n + m)) * z.2) DV.junk).length = cap' * z.2 := by
      rw [List.length_append, List.length_append, f4, g4', List.length_replicate, ← Nat.add_mul, ← Nat.add_mul]; congr 1; omega
    have hbs : b ≠ w.heap.size := by have := (hr.dom b _ hb).1; omega
    have hsub : SubH ((H.upd b none).upd w.heap.size (some (.cells (cs ++ ys ++ List.replicate ((cap' - (n + m)) * z.2) DV.junk) ty))) (H.upd w.heap.size (some (.cells (cs ++ ys ++ List.replicate ((cap' - (n + m)) * z.2) DV.junk) ty))) := by
      intro q o' e
      simp only [Hp.upd] at e ⊢
      split at e
      · rename_i hq; rw [if_pos hq]; exact e
      · rename_i hq
        rw [if_neg hq]
        split at e
        · cases e
        · exact e
    have hxx := (hx1.trans k2).drop hsub
    refine wpIn_value (by rw [ho]; intro c e; cases e) (app_exec ho hcal hargs htys (by rw [hA]; exact hrun)) ⟨_, _, _, h w.heap.size cap' _ (.inr (hr.free (Nat.le_refl _))) hcap hlen, k1.drop hsub, ?_, hxx⟩
    rw [hd]
    exact (hf.ext hr hxx).putO (.win _ _ _ _ hcap)

/-- A row comes to rest: what a variable holds of it is told by what it holds. -/
theorem Cv.freeze {be g n cap sz k : Nat} {cs ls rest : List DV} {ty ty' : TypeId} {d : DV} (hbe : H be = some (.cells cs ty)) (hk : cs[k]? = some (.win g 0 n cap)) (hg : H g = some (.cells (ls ++ rest) ty')) (hl : ls.length = n * sz) (hne : g ≠ be) :
    Cv H ((H.upd g none).upd be (some (.cells (cs.set k (.lst ls n sz none)) ty))) d d := by
  intro G w Z hr
  have hs1 : SubH (H.upd g none) H := by
    intro q o e
    by_cases h : q = g
    · subst h; rw [Hp.upd_same] at e; cases e
    · rw [Hp.upd_ne h] at e; exact e
  have hr1 := hr.drop hs1
  have hx1 := (Ext.refl hr).drop hs1
  generalize hZ1 : Gone H (H.upd g none) Z = Z1 at hr1 hx1
  have hZg : Z1 g := by rw [← hZ1]; exact .inr ⟨⟨_, hg⟩, Hp.upd_same⟩
  have hbe1 : (H.upd g none) be = some (.cells cs ty) := by rw [Hp.upd_ne (Ne.symm hne)]; exact hbe
  generalize hH1 : H.upd g none = H1 at hr1 hx1 hbe1 hZ1
  have hvr1 : ∀ v d, VR w H Z v d → VR w H1 Z1 v d := fun v d hv => by rw [← hZ1, ← hH1] at *; exact hv.drop (hH1 ▸ hs1)
  have hsf : SameF H1 (H1.upd be (some (.cells (cs.set k (.lst ls n sz none)) ty))) := by
    intro b f sz' ty2
    by_cases h : b = be
    · subst h; rw [Hp.upd_same, hbe1]; constructor <;> (intro h; cases h)
    · rw [Hp.upd_ne h]
  obtain ⟨garr, gfz, gw, _, gsz, gone, gval⟩ := hr.obj g _ hg
  obtain ⟨barr, bfz, bw, bf, bsz, bone, bval⟩ := hr1.obj be _ hbe1
  have hkl : k < cs.length := (List.getElem?_eq_some_iff.1 hk).1
  have hobj : OR w (H1.upd be (some (.cells (cs.set k (.lst ls n sz none)) ty))) Z1 be (.cells (cs.set k (.lst ls n sz none)) ty) := by
    refine ⟨barr, bfz, bw, bf, by rw [List.length_set]; exact bsz, bone, fun j v d hj hd => ?_⟩
    by_cases hjk : j = k
    · subst hjk
      rw [List.getElem?_set_self hkl] at hd
      cases hd
      have hw := bval j v _ hj hk
      have hle : n ≤ cap ∧ v = .slice (some ⟨g, 0, none⟩) n cap := by cases hw; exact ⟨by assumption, rfl⟩
      obtain ⟨hle, rfl⟩ := hle
      have hgl : ∀ j, j < ls.length → ∃ x, garr[j]? = some x := fun j hj => by
        have : j < garr.size := by rw [gsz, List.length_append]; omega
        exact ⟨_, Array.getElem?_eq_getElem this⟩
      refine .lst (some ⟨g, 0, none⟩) n cap sz ls none (fun j => garr.getD j undef) hl hle (fun j hj => ⟨_, rfl, rfl, ?_, .inl hZg⟩) (fun j hj => ?_) (fun j d hd => ?_) (fun b off e => by cases e)
      · obtain ⟨x, hx⟩ := hgl j hj
        rw [cell_of_row _ _ _ _ _ _ gw, Nat.zero_add, hx]
        simp [Array.getD_eq_getD_getElem?, hx]
      · obtain ⟨x, hx⟩ := hgl j hj
        have : garr.getD j undef = x := by simp [Array.getD_eq_getD_getElem?, hx]
        rw [this]; exact gone j x hx
      · have hj : j < ls.length := (List.getElem?_eq_some_iff.1 hd).1
        obtain ⟨x, hx⟩ := hgl j hj
        have : garr.getD j undef = x := by simp [Array.getD_eq_getD_getElem?, hx]
        rw [this]
        exact (hvr1 _ _ (gval j x d hx (by rw [List.getElem?_append_left hj]; exact hd))).congr hsf
    · rw [List.getElem?_set_ne (Ne.symm hjk)] at hd
      exact (bval j v d hj hd).congr hsf
  refine ⟨Z1, ⟨fun b o e => ?_, hr1.zlt, fun b o e => ?_, fun gg cs' e => (hr1.glob gg cs' e).congr hsf⟩, ?_, fun v hv => (hvr1 v d hv).congr hsf⟩
  · by_cases h : b = be
    · subst h; exact hr1.dom b _ hbe1
    · rw [Hp.upd_ne h] at e; exact hr1.dom b o e
  · by_cases h : b = be
    · subst h; rw [Hp.upd_same] at e; cases e; exact hobj
    · rw [Hp.upd_ne h] at e; exact (hr1.obj b o e).congr hsf
  · refine ⟨hx1.size, hx1.os, hx1.tape, hx1.output, fun b hb => ?_, fun b h1 h2 h3 => ?_, fun b f sz' ty2 hb hlt => ?_, fun b f sz' ty2 hb => ?_⟩
    · obtain ⟨a1, a2, a3⟩ := hx1.imm b hb
      have : b ≠ be := fun e => by rw [e, hbe1] at a2; cases a2
      exact ⟨a1, by rw [Hp.upd_ne this]; exact a2, a3⟩
    · obtain ⟨a1, a2, a3⟩ := hx1.priv b h1 h2 h3
      have : b ≠ be := fun e => by rw [e, hbe1] at a2; cases a2
      exact ⟨a1, by rw [Hp.upd_ne this]; exact a2, a3⟩
    · exact hx1.frt b f sz' ty2 ((hsf b f sz' ty2).2 hb) hlt
    · obtain ⟨a1, a2⟩ := hx1.pre b f sz' ty2 hb
      refine ⟨?_, a2⟩
      rcases a1 with a1 | ⟨f', l, a1⟩
      · exact .inl a1
      · exact .inr ⟨f', l, (hsf b f' sz' ty2).1 a1⟩

/-! Two effects, in either order. -/
def vdTwo (n : Nat) (dep : Nat → List Nat) (eff V : List Nat) (i j : Nat) : Bool :=
  eff.contains i && eff.contains j && !V.contains i && !V.contains j && (dep i).all V.contains && (dep j).all V.contains && (List.range n).all fun k => k == i || k == j || V.contains k || !(dep k).all V.contains

theorem VD.pe2 {is : List Ins} {dep : Nat → List Nat} {eff V pend : List Nat} {Q : EX → Fr → Hp → Prop} {fr : Fr} {xi xj : Ins} {Ki Kpi Kj Kpj : DV → Hp → Prop} (i j : Nat) (hij : i ≠ j) (hxi : is[i]? = some xi) (hxj : is[j]? = some xj)
    (hok : vdTwo is.length dep eff V i j = true) (hsi : EF P G r N xi Ki Kpi fr H) (hsj : EF P G r N xj Kj Kpj fr H) (hpi : ∀ d fr' H', Kpi d H' → Q (.panic d) fr' H') (hpj : ∀ d fr' H', Kpj d H' → Q (.panic d) fr' H')
    (ki : ∀ d H', Ki d H' → (∀ k ∈ pend.filter fun k => !(dep i).contains k, ∀ y, is[k]? = some y → Stab G (fr.put xi.dst d) H' y) ∧ VD P G r N is dep eff Q (i :: V) (pend.filter fun k => !(dep i).contains k) (fr.put xi.dst d) H')
    (kj : ∀ d H', Kj d H' → (∀ k ∈ pend.filter fun k => !(dep j).contains k, ∀ y, is[k]? = some y → Stab G (fr.put xj.dst d) H' y) ∧ VD P G r N is dep eff Q (j :: V) (pend.filter fun k => !(dep j).contains k) (fr.put xj.dst d) H') : VD P G r N is dep eff Q V pend fr H := by
  unfold vdTwo at hok
  simp only [Bool.and_eq_true, Bool.not_eq_true', List.all_eq_true, Bool.or_eq_true] at hok
  obtain ⟨⟨⟨⟨⟨⟨h1, h2⟩, h3⟩, h4⟩, h5⟩, h6⟩, h7⟩ := hok
  have hsel : ∀ {α : Type} (a b : α), (if i = i then a else b) = a ∧ (if j = i then a else b) = b := fun a b => ⟨if_pos rfl, if_neg (Ne.symm hij)⟩
  refine VD.effs [i, j] (fun k => if k = i then xi else xj) (fun k => if k = i then Ki else Kj) (fun k => if k = i then Kpi else Kpj) (by simp) (fun a ha => ?_) (fun a ha haV hd => ?_) (fun a ha => ?_) (fun a ha d fr' H' hk => ?_) (fun a ha d H' hK b hb hbd y hy => ?_) (fun a ha d H' hK => ?_)
  · simp only [List.mem_cons, List.not_mem_nil, or_false] at ha
    rcases ha with rfl | rfl
    · rw [if_pos rfl]
      exact ⟨hxi, by simpa using h1, by simpa using h3, fun b hb => by have := h5 b hb; simpa using this⟩
    · rw [if_neg (Ne.symm hij)]
      exact ⟨hxj, by simpa using h2, by simpa using h4, fun b hb => by have := h6 b hb; simpa using this⟩
  · have := h7 a (by simpa using ha)
    rcases this with ((h | h) | h) | h
    · have : a = i := by simpa using h
      simp [this]
    · have : a = j := by simpa using h
      simp [this]
    · exact absurd (by simpa using h) haV
    · have e : (dep a).all V.contains = true := List.all_eq_true.2 fun k hk => by simpa using hd k hk
      rw [e] at h; cases h
  · simp only [List.mem_cons, List.not_mem_nil, or_false] at ha
    rcases ha with rfl | rfl
    · rw [if_pos rfl, if_pos rfl, if_pos rfl]; exact hsi
    · rw [if_neg (Ne.symm hij), if_neg (Ne.symm hij), if_neg (Ne.symm hij)]; exact hsj
  · simp only [List.mem_cons, List.not_mem_nil, or_false] at ha
    rcases ha with rfl | rfl
    · rw [if_pos rfl] at hk; exact hpi d fr' H' hk
    · rw [if_neg (Ne.symm hij)] at hk; exact hpj d fr' H' hk
  · simp only [List.mem_cons, List.not_mem_nil, or_false] at ha
    rcases ha with rfl | rfl
    · rw [if_pos rfl] at hK ⊢
      exact (ki d H' hK).1 b (by rw [List.mem_filter]; exact ⟨hb, by simpa using hbd⟩) y hy
    · rw [if_neg (Ne.symm hij)] at hK ⊢
      exact (kj d H' hK).1 b (by rw [List.mem_filter]; exact ⟨hb, by simpa using hbd⟩) y hy
  · simp only [List.mem_cons, List.not_mem_nil, or_false] at ha
    rcases ha with rfl | rfl
    · rw [if_pos rfl] at hK ⊢
      exact (ki d H' hK).2
    · rw [if_neg (Ne.symm hij)] at hK ⊢
      exact (kj d H' hK).2
end
end Go.Run
/- A function with one deferred call, and what is called so and recovers. -/
namespace Go.Run
open Go Go.RowKit
section
variable {P : Program} {G : Gl}

theorem wpSIn_rec {F : Fence} {n : Nat} {ops : Array Oper} {id i : Nat} {rest : List Nat} {o : Oper} {Q : Exit → Act → List Frame → World → Prop} {a : Act} {cs cs' : List Frame} {w : World} {v : Value}
    (hr0 : F.round = none) (hl : List.range ops.size = i :: rest) (ho : ops[i]? = some o) (hw : Region.wanted o (yielded ops a.tmps) = true) (hab : ∀ f, o.about P w a.eval = some f → F.fn f)
    (he : (execOp a.eval o).run P w = .ok .recover w)
    (hv : recoverD cs = some (v, cs') ∨ (recoverD cs = none ∧ v = .nilIface ∧ cs' = cs))
    (h : wpOpsIn F n P ops (fun e a' w' => Q e a' cs' w') rest (a.put o.dst v) w) : (Code.region id ops false).wpSIn F n P Q a cs w := by
  intro b k hb hro hF hroom
  have hlen : cs'.length = cs.length := by
    rcases hv with hv | ⟨_, _, rfl⟩
    · exact recoverD_length hv
    · rfl
  have hfin : ∀ v, (b.atR a (.inRegion ops (i :: rest) :: k)).finish v = b.atR (a.put o.dst v) (.inRegion ops rest :: k) := by
    intro v; rw [Frame.finish_atR, ho]; rfl
  obtain ⟨e, a', w', hq, harr⟩ := wp_opsIn rest _ w h b k cs' (hro.trans hr0.symm) hF (hlen ▸ hroom)
  have h0 : (lone (b.atR a (.inRegion ops (i :: rest) :: k)) cs w).fenced P F := fenced_oper hF hroom ho hab
  have hg := stepGR_op (P := P) (b := b) (k := k) (cs := cs) (w := w) (rest := rest) ho hw
  rw [hro, Oper.semAt_none] at hg
  have hk : (b.atR a (.inRegion ops (i :: rest) :: k)).kind = .deferred := hb
  have htr := tryRecover_deferred hk cs
  have hst : step P (lone (b.atR a (.inRegion ops (i :: rest) :: k)) cs w) = .next (lone (b.atR (a.put o.dst v) (.inRegion ops rest :: k)) cs' w) := by
    refine step_lone_go ?_
    rw [hg, ← hfin]
    simp only [Frame.atR, hro] at htr ⊢
    rcases hv with hv | ⟨hv, rfl, rfl⟩ <;> simp [stepG.apply, he, htr, hv]
  have h1 := stepR_region (P := P) (b := b) (a := a) (k := k) (cs := cs) (w := w) (ops := ops) (id := id)
  rw [hl] at h1
  exact ⟨e, a', cs', w', hlen, hq, .of_steps (.one (fenced_calm hF hroom rfl) h1) (.of_steps (.one h0 hst) harr)⟩

def DMode (w : World) (H : Hp) (Z : Zn) : Option DV → FrameMode → Prop
  | none, u => u = .returning
  | some d, u => ∃ v, u = .panicking [{ v, recovered := false }] ∧ VR w H Z v d

/-- A deferred call that ends well, and behind which the function below returns. -/
def DCALL (P : Program) (G : Gl) (f : FuncId) (ds : List DV) (m : Option DV) (H : Hp) (K : Hp → Prop) : Prop :=
  (∃ fn, P.funcs[f]? = some fn ∧ fn.body.isNone = false ∧ (fn.name == "runtime.NumGoroutine") = false) ∧
  ∀ (n : Nat) (w : World) (Z : Zn) (vs : Array Value) (u : FrameMode), HR G w H Z → vs.size = ds.length → (∀ (j : Nat) (v : Value) (d : DV), vs[j]? = some v → ds[j]? = some d → VR w H Z v d) → DMode w H Z m u →
    CallsDIn Fence.wide n P f vs u w (fun e u' w' => (∃ v, e = .returned v) ∧ settle u' = .returning ∧ ∃ H' Z', K H' ∧ HR G w' H' Z' ∧ Ext w H Z w' H' Z')

theorem DCALL.mono {f : FuncId} {ds : List DV} {m : Option DV} {H : Hp} {K K' : Hp → Prop} (h : DCALL P G f ds m H K) (hk : ∀ H', K H' → K' H') : DCALL P G f ds m H K' :=
  ⟨h.1, fun n w Z vs u h1 h2 h3 h4 => (h.2 n w Z vs u h1 h2 h3 h4).mono fun e u' w' ⟨k1, k2, H', Z', k3, k4⟩ => ⟨k1, k2, H', Z', hk _ k3, k4⟩⟩

def QD (K : Hp → Prop) : EX → Fr → Hp → Prop
  | .normal, _, He | .ret, _, He => K He
  | _, _, _ => False

theorem cAll_cons {N : Nat} {ops : Array Oper} {i : Ins} {l : List Ins} (h : cAll P N ops ops.toList = some (i :: l)) :
    ∃ j rest o, List.range ops.size = j :: rest ∧ ops[j]? = some o ∧ cIns P N ops o = some i ∧ rest.map (fun i => (ops[i]?).bind (cIns P N ops)) = l.map some := RG.cons_shape (cAll_range h)

/-- The frame in which a call begins. -/
theorem start_FR {w : World} {H : Hp} {Z : Zn} {N : Nat} {nt : Nat} {vs : Array Value} {ds : List DV} (h6 : nt = N) (hl : ds.length ≤ N) (hs : vs.size = ds.length) (hv : ∀ (j : Nat) (v : Value) (d : DV), vs[j]? = some v → ds[j]? = some d → VR w H Z v d) :
    FR w H Z (w.heap.size, []) N { tmps := vs ++ Array.replicate (nt - vs.size) undef, defers := [] } (argFr ds) := by
  refine ⟨by simp; omega, fun t ht => ?_, MarksB.nil, Nat.le_refl _⟩
  unfold argFr
  cases e : ds[t]? with
  | none => exact .junk _
  | some d =>
    have hlt : t < vs.size := by rw [hs]; exact (List.getElem?_eq_some_iff.1 e).1
    have hg : (vs ++ Array.replicate (nt - vs.size) undef).getD t undef = vs[t] := by
      simp [Array.getD, hlt, Array.getElem_append]
      intro h; omega
    show VR w H Z ((vs ++ Array.replicate (nt - vs.size) undef).getD t undef) d
    rw [hg]
    exact hv t _ d (Array.getElem?_eq_getElem hlt) e

/-- Marks at the end of a deferred call's body. -/
def LD (P : Program) (R : Value → World → Prop) (fn : Func) (tmps : Array Value) : List Deferred → World → Prop
  | [], w => ∃ v, (results fn tmps).run P w = .ok v w ∧ R v w
  | d :: ds, w => ∃ r w', d.target = .collected r ∧ (Instr.takeDeferred r).run P w = .ok [] w' ∧ LD P R fn tmps ds w'

theorem LD.steps {F : Fence} {n : Nat} {R : Value → World → Prop} {fn : Func} {tmps : Array Value} : ∀ (ds : List Deferred) (w : World) (fr : Frame) (cs : List Frame), fr.mode = .returning → fr.defers = ds → fr.tmps = tmps → P.funcs[fr.fn]? = some fn → F.fn fr.fn → F.room (cs.length + 1 + n) → LD P R fn tmps ds w →
    ∃ v w' fr', R v w' ∧ StepsIn (Machine.fenced P F) P (lone fr cs w) (lone fr' cs w') ∧ fr'.kind = fr.kind ∧ fr'.fn = fr.fn ∧ fr'.going P w' (.returned v)
  | [], w, fr, cs, hm, hd, ht, hf, hF, hroom, ⟨v, h1, h2⟩ => ⟨v, w, fr, h2, StepsIn.refl _, rfl, rfl, hm, hd, fn, hf, by rw [ht]; exact h1⟩
  | d :: ds, w, fr, cs, hm, hd, ht, hf, hF, hroom, ⟨r, w', h1, h2, h3⟩ => by
    have hne : fr.mode ≠ .run := by rw [hm]; simp
    have s1 := step_collected (cs := cs) hne hd h1 h2
    have i1 : (lone fr cs w).fenced P F := fenced_out hF hroom hne hd (fun g hg => by rw [h1] at hg; simp [Target.leads] at hg)
    obtain ⟨v, w2, fr', k1, k2, k3, k4, k5⟩ := LD.steps (F := F) (n := n) (R := R) ds w' { fr with defers := [] ++ ds } cs hm rfl ht hf hF hroom h3
    exact ⟨v, w2, fr', k1, .head i1 s1 k2, k3, k4, k5⟩

def PostDM (P : Program) (fn : Func) (c₀ : Frame) (cs : List Frame) (R : Value → FrameMode → World → Prop) : Exit → Act → List Frame → World → Prop
  | .normal, a, cs', w | .ret, a, cs', w => ∃ u', cs' = { c₀ with mode := u' } :: cs ∧ LD P (fun v w' => R v u' w') fn a.tmps a.defers w
  | _, _, _, _ => False

theorem callsDIn_of_marks {F : Fence} {n : Nat} {f : FuncId} {fn : Func} {c : Code} {args : Array Value} {u : FrameMode} {w : World} {R : Value → FrameMode → World → Prop}
    (hf : P.funcs[f]? = some fn) (hb : fn.body = some c) (hF : F.fn f)
    (h : ∀ (c₀ : Frame) (cs : List Frame), c₀.mode = u →
      c.wpSIn F n P (PostDM P fn c₀ cs R) { tmps := args ++ Array.replicate (fn.ntmps - args.size) undef, defers := [] } (c₀ :: cs) w) :
    CallsDIn F n P f args u w (fun e u' w' => ∃ v, e = .returned v ∧ R v u' w') := by
  refine ⟨hF, fun c₀ cs hu hroom => ?_⟩
  let b : Frame := { (default : Frame) with fn := f, kind := .deferred, roundOf := none }
  have henter : Frame.enter P f args .deferred =
      b.atR { tmps := args ++ Array.replicate (fn.ntmps - args.size) undef, defers := [] } [.code c] := by
    simp [Frame.enter, Frame.atR, hf, hb, b]
  obtain ⟨e, a', cs', w', hl, hq, harr⟩ := h c₀ cs hu b [] rfl rfl hF hroom
  rw [← henter] at harr
  cases e with
  | normal =>
    obtain ⟨u', rfl, hld⟩ := hq
    obtain ⟨v, w2, fr', k1, k2, k3, k4, k5⟩ := LD.steps (F := F) (n := n) a'.defers w' { b.atR a' [] with mode := .returning } ({ c₀ with mode := u' } :: cs) rfl rfl rfl hf hF hroom hld
    exact ⟨.returned v, u', w2, fr', ⟨v, rfl, k1⟩, StepsIn.trans harr (.head (fenced_calm (fr := b.atR a' []) hF hroom rfl) (stepR_end rfl) k2), k3, k4, k5⟩
  | ret =>
    obtain ⟨u', rfl, hld⟩ := hq
    obtain ⟨todo, hs⟩ := harr.1 rfl
    obtain ⟨v, w2, fr', k1, k2, k3, k4, k5⟩ := LD.steps (F := F) (n := n) a'.defers w' { b.atR a' todo with mode := .returning } ({ c₀ with mode := u' } :: cs) rfl rfl rfl hf hF hroom hld
    exact ⟨.returned v, u', w2, fr', ⟨v, rfl, k1⟩, StepsIn.trans hs k2, k3, k4, k5⟩
  | panic chain => exact hq.elim
  | exit id => exact hq.elim
  | goto l => exact hq.elim
  | outgrown => exact hq.elim

theorem LD.of {w0 : World} {R : Value → World → Prop} {fn : Func} {tmps : Array Value} {He : Hp} {Ze : Zn} (I : World → Prop)
    (hI : ∀ (w' : World) (b : Nat), I w' → w0.heap.size ≤ b → b < w'.heap.size → ¬ Ze b → He b = none → w'.heap[b]? = some (.deferred (some [])) → I { w' with heap := w'.heap.setIfInBounds b (.deferred none) })
    (hend : ∀ w', I w' → LD P R fn tmps [] w') : ∀ (ds : List Deferred) (w' : World), I w' → Marks w' He Ze w0.heap.size ds → LD P R fn tmps ds w'
  | [], w', hi, _ => hend w' hi
  | d :: ds, w', hi, hm => by
    obtain ⟨b, e, h0, h1, h2, h3, h4⟩ := hm.1 d (by simp)
    refine ⟨b, { w' with heap := w'.heap.setIfInBounds b (.deferred none) }, e, run_takeDeferred h4, ?_⟩
    refine LD.of I hI hend ds _ (hI w' b hi h0 h1 h2 h3 h4) ⟨fun d' hd' => ?_, (List.nodup_cons.1 hm.2).2⟩
    obtain ⟨b', e', g0, g1, g2, g3, g4⟩ := hm.1 d' (by simp [hd'])
    have hne : b ≠ b' := by
      intro heq
      have hnd := (List.nodup_cons.1 hm.2).1
      apply hnd
      rw [List.mem_map]
      exact ⟨d', hd', by simp only [e, e', heq]⟩
    exact ⟨b', e', g0, by simpa using g1, g2, g3, by simp [Array.getElem?_setIfInBounds, hne, g4]⟩

theorem DCALL.of {f : FuncId} {F : FN} {ds : List DV} {m : Option DV} {H : Hp} {K : Hp → Prop} {t0 : Nat} {c : Call} {l : List Ins} {c2 : CC} (hf : cFn P f = some F) (hl : ds.length ≤ F.N)
    (hc : F.c = .seq (.reg (⟨some t0, none, .oth (.call c)⟩ :: l)) c2) (hcal : c.callee = .builtin .recover) (hrs : F.rs = [])
    (h : RG P G none F.N l (Sq P G none F.N c2 (QD K)) ((argFr ds).put (some t0) (m.getD .nilif)) H) : DCALL P G f ds m H K := by
  obtain ⟨fn, c', h1, h2, h3, h4, h5, h6⟩ := cFn_sound hf
  rw [hc] at h4
  obtain ⟨ka, kb, rfl, k1, k2⟩ := cCode_seq h4
  obtain ⟨id, ops, rfl, k7⟩ := cCode_reg k1
  obtain ⟨j, rest, o, e1, ho, hcI, hrest⟩ := cAll_cons k7
  obtain ⟨d1, d2, d3, d4⟩ := cIns_shape hcI
  have hop := cOp_oth d1
  dsimp only at d3
  refine ⟨⟨fn, h1, by simp [h2], h3⟩, fun n w Z vs u hr hs hv hm => ?_⟩
  have hfr := start_FR h6 hl hs hv
  have hres : fn.results.toList = [] := by
    rw [hrs] at h5
    cases e : fn.results.toList with
    | nil => rfl
    | cons x xs =>
      rw [e] at h5
      cases x <;> simp only [cRes] at h5 <;> split at h5 <;> first | (cases h5; done) | skip
      · obtain ⟨_, _, h5⟩ := bindS h5; cases h5
      · obtain ⟨_, _, h5⟩ := bindS h5; obtain ⟨_, _, h5⟩ := bindS h5; obtain ⟨_, _, h5⟩ := bindS h5; cases h5
  refine (callsDIn_of_marks (R := fun v u' w' => settle u' = .returning ∧ ∃ H' Z', K H' ∧ HR G w' H' Z' ∧ Ext w H Z w' H' Z') h1 h2 trivial fun c₀ cs hu => ?_).mono (fun e u' w' ⟨v, e1, e2⟩ => ⟨⟨v, e1⟩, e2⟩)
  refine wpSIn_seq ?_
  have hwant : ∀ tm, Region.wanted o (yielded ops tm) = true := by
    intro tm
    rcases d4 with ⟨d4, _⟩ | ⟨_, _, _, _, _, _, d4⟩
    · simp [Region.wanted, d4]
    · cases d4
  have hexec : ∀ a : Act, (execOp a.eval o).run P w = .ok .recover w := by
    intro a
    simp only [execOp, hop, resolve, hcal, Sem.run_bind, Sem.run_pure, Result.andThen_ok, invoke]
    rfl
  have hrec : ∃ v cs' u', (recoverD (c₀ :: cs) = some (v, cs') ∨ (recoverD (c₀ :: cs) = none ∧ v = .nilIface ∧ cs' = c₀ :: cs)) ∧ cs' = { c₀ with mode := u' } :: cs ∧ settle u' = .returning ∧ VR w H Z v (m.getD .nilif) := by
    cases m with
    | none =>
      have hm' : u = .returning := hm
      subst hm'
      refine ⟨.nilIface, c₀ :: cs, .returning, .inr ⟨?_, rfl, rfl⟩, ?_, rfl, .nilif⟩
      · simp [recoverD, hu]
      · rw [← hu]
    | some d =>
      obtain ⟨v, hm', hvd⟩ := hm
      subst hm'
      refine ⟨v, _, .panicking [{ v, recovered := true }], .inl ?_, rfl, rfl, hvd⟩
      simp [recoverD, hu]
  obtain ⟨v, cs', u', hv1, rfl, hset, hvd⟩ := hrec
  refine wpSIn_rec rfl e1 ho (hwant _) (fun _ _ => trivial) (hexec _) hv1 ?_
  rw [d3]
  have hfr1 := hfr.putO (dst := some t0) hvd
  refine wpOpsIn_mono (fun e a' w' hp => ?_) _ _ _ (h n (w.heap.size, []) w Z _ ops rest hrest hr hfr1)
  have fin : ∀ {w' : World} {a' : Act} {fr' : Fr} {He : Hp} {Ze : Zn}, K He → HR G w' He Ze → FR w' He Ze (w.heap.size, []) F.N a' fr' → Ext w H Z w' He Ze →
      LD P (fun v w' => settle u' = .returning ∧ ∃ H' Z', K H' ∧ HR G w' H' Z' ∧ Ext w H Z w' H' Z') fn a'.tmps a'.defers w' := by
    intro w' a' fr' He Ze q k2 k3 k4
    have hmk : Marks w' He Ze w.heap.size a'.defers := by
      obtain ⟨ms, e, m⟩ := k3.marks
      rw [List.append_nil] at e
      rw [e]; exact m
    refine LD.of (w0 := w) (He := He) (Ze := Ze) (fun w'' => HR G w'' He Ze ∧ Ext w H Z w'' He Ze) ?_ ?_ a'.defers w' ⟨k2, k4⟩ hmk
    · rintro w'' b ⟨g1, g2⟩ b1 b2 b3 b4 b5
      obtain ⟨m1, m2, m4⟩ := private_set g1 g2 b1 b3 b4 (.deferred none)
      exact ⟨m1, m2⟩
    · rintro w'' ⟨g1, g2⟩
      refine ⟨.tuple #[], ?_, hset, He, Ze, q, g1, g2⟩
      have hm : (fn.results.mapM (fun | .tmp t => pure (a'.tmps.getD t undef) | .cell a t => do loadVar t (← asAddr (a'.tmps.getD a undef)) : ResultVar → Sem Value)).run P w'' = .ok #[] w'' := by
        rw [Array.mapM_eq_mapM_toList, hres]
        rfl
      unfold results
      rw [Sem.run_bind]
      exact congrArg (fun r => Result.andThen r _) hm
  have fin2 : ∀ {e : Exit} {a' : Act} {w' : World} {w1 : World} {H1 : Hp} {Z1 : Zn}, Ext w H Z w1 H1 Z1 → Post G F.N (QD K) (w.heap.size, []) w1 H1 Z1 e a' w' → PostDM P fn c₀ cs (fun v u' w' => settle u' = .returning ∧ ∃ H' Z', K H' ∧ HR G w' H' Z' ∧ Ext w H Z w' H' Z') e a' ({ c₀ with mode := u' } :: cs) w' := by
    intro e a' w' w1 H1 Z1 hx hp
    obtain ⟨ex, fr', He, Ze, q, k1, k2, k3, k4⟩ := hp
    cases e <;> cases ex <;> try exact k1.elim
    · exact ⟨u', rfl, fin q k2 k3 (hx.trans k4)⟩
    · exact q.elim
    · exact ⟨u', rfl, fin q k2 k3 (hx.trans k4)⟩
    · exact q.elim
  obtain ⟨ex, fr', He, Ze, q, r1, r2, r3, r4⟩ := hp
  cases e <;> cases ex <;> try exact r1.elim
  · exact wpSIn_of_wpIn rfl (wpIn_mono (q kb k2 n (w.heap.size, []) w' Ze a' r2 r3) fun _ _ _ hp => fin2 r4 hp)
  · exact q.elim
  · exact fin2 (.refl hr) ⟨.ret, fr', He, Ze, q, r1, r2, r3, r4⟩
  · exact q.elim

/-- A body's end, as a call's ending. -/
theorem bodyM {fn : Func} {N : Nat} {rs : List RV} {Kr Kp : DV → Hp → Prop} {w : World} {H : Hp} {Z : Zn} (h5 : cRes P N fn.results.toList = some rs) {e : Exit} {ex : EX} {a' : Act} {w' : World} {fr' : Fr} {He : Hp} {Ze : Zn}
    (q : Fin rs Kr Kp ex fr' He) (k1 : ER w' He Ze e ex) (k2 : HR G w' He Ze) (k3 : FR w' He Ze (w.heap.size, []) N a' fr') (k4 : Ext w H Z w' He Ze) :
    bodyPostM Fence.wide 0 P fn (CPost G Kr Kp w H Z) e a' w' := by
  have hmk : Marks w' He Ze w.heap.size a'.defers := by
    obtain ⟨ms, e, m⟩ := k3.marks
    rw [List.append_nil] at e
    rw [e]; exact m
  have fin : (∃ l d H', evRes He fr' rs = some l ∧ Cv He H' (tupD l) d ∧ Kr d H') → LeavesInM Fence.wide 0 P fn a'.tmps (CPost G Kr Kp w H Z) a'.defers .returning w' := by
    rintro ⟨l, d, H', q1, q2, q4⟩
    refine leavesM (w0 := w) (He := He) (Ze := Ze) (by simp) (fun w'' => HR G w'' He Ze ∧ Ext w H Z w'' He Ze ∧ FR w'' He Ze (w.heap.size, []) N { tmps := a'.tmps, defers := [] } fr') ?_ ?_ a'.defers w' ⟨k2, k4, k3.size, k3.vals, MarksB.nil, k3.low⟩ hmk
    · rintro w'' b ⟨g1, g2, g3⟩ b1 b2 b3 b4 b5
      obtain ⟨m1, m2, m4⟩ := private_set g1 g2 b1 b3 b4 (.deferred none)
      exact ⟨m1, m2, g3.size, fun t ht => m4 _ _ (g3.vals t ht), MarksB.nil, by simpa using g3.low⟩
    · rintro w'' ⟨g1, g2, g3⟩
      obtain ⟨v, m1, m2⟩ := results_sound (P := P) (fn := fn) g1 g3.vals h5 q1
      obtain ⟨Z', c1, c2, c3⟩ := q2 _ _ _ g1
      exact ⟨v, m1, d, H', Z', q4, c3 v m2, c1, g2.trans c2⟩
  cases e <;> cases ex <;> try exact k1.elim
  · exact fin q
  · exact q.elim
  · exact fin q
  · rename_i ch d
    obtain ⟨v, rfl, hvd⟩ := k1
    obtain ⟨H', q1, q2⟩ := q
    refine leavesM (w0 := w) (He := He) (Ze := Ze) (by simp) (fun w'' => HR G w'' He Ze ∧ Ext w H Z w'' He Ze ∧ VR w'' He Ze v d) ?_ ?_ a'.defers w' ⟨k2, k4, hvd⟩ hmk
    · rintro w'' b ⟨g1, g2, g3⟩ b1 b2 b3 b4 b5
      obtain ⟨m1, m2, m4⟩ := private_set g1 g2 b1 b3 b4 (.deferred none)
      exact ⟨m1, m2, m4 _ _ g3⟩
    · rintro w'' ⟨g1, g2, g3⟩
      exact ⟨v, d, H', _, rfl, q2, g3.drop q1, g1.drop q1, g2.drop q1⟩

/-- 'leavesM', with more behind the marks. -/
theorem leavesT {lo n : Nat} {fn : Func} {tmps : Array Value} {R : Ending → World → Prop} {He : Hp} {Ze : Zn} {u : FrameMode} {tl : List Deferred} (hu : u ≠ .run) (I : World → Prop)
    (hI : ∀ (w' : World) (b : Nat), I w' → lo ≤ b → b < w'.heap.size → ¬ Ze b → He b = none → w'.heap[b]? = some (.deferred (some [])) → I { w' with heap := w'.heap.setIfInBounds b (.deferred none) })
    (hend : ∀ w', I w' → LeavesInM (Wd none) n P fn tmps R tl u w') : ∀ (ds : List Deferred) (w' : World), I w' → Marks w' He Ze lo ds → LeavesInM (Wd none) n P fn tmps R (ds ++ tl) u w'
  | [], w', hi, _ => hend w' hi
  | d :: ds, w', hi, hm => by
    obtain ⟨b, e, h0, h1, h2, h3, h4⟩ := hm.1 d (by simp)
    refine ⟨hu, .inl ⟨b, { w' with heap := w'.heap.setIfInBounds b (.deferred none) }, e, run_takeDeferred h4, ?_⟩⟩
    refine leavesT hu I hI hend ds _ (hI w' b hi h0 h1 h2 h3 h4) ⟨fun d' hd' => ?_, (List.nodup_cons.1 hm.2).2⟩
    obtain ⟨b', e', g0, g1, g2, g3, g4⟩ := hm.1 d' (by simp [hd'])
    have hne : b ≠ b' := by
      intro heq
      have hnd := (List.nodup_cons.1 hm.2).1
      apply hnd
      rw [List.mem_map]
      exact ⟨d', hd', by simp only [e, e', heq]⟩
    exact ⟨b', e', g0, by simpa using g1, g2, g3, by simp [Array.getElem?_setIfInBounds, hne, g4]⟩

def FinR (rs : List RV) (Kr : DV → Hp → Prop) (fr : Fr) (He : Hp) : Prop := ∃ l d H', evRes He fr rs = some l ∧ Cv He H' (tupD l) d ∧ Kr d H'

def FinD (P : Program) (G : Gl) (g : FuncId) (dcs : List DV) (rs : List RV) (Kr : DV → Hp → Prop) : EX → Fr → Hp → Prop
  | .normal, fr, He | .ret, fr, He => DCALL P G g dcs none He (FinR rs Kr fr)
  | .panic d, fr, He => DCALL P G g dcs (some d) He (FinR rs Kr fr)
  | .exit _, _, _ => False

def QD1 (M : Fr → Hp → Prop) (rs : List RV) (Kr Kp : DV → Hp → Prop) : EX → Fr → Hp → Prop
  | .normal, fr, He => M fr He
  | e, fr, He => Fin rs Kr Kp e fr He

theorem CALL.ofD {f g : FuncId} {F : FN} {ds : List DV} {H : Hp} {Kr Kp : DV → Hp → Prop} {ca cb cr : CC} {t : Nat} {caps : List X} {c : Call} (hf : cFn P f = some F) (hl : ds.length ≤ F.N)
    (hc : F.c = .seq ca (.seq cb (.seq (.reg [⟨some t, none, .mkfn (.func g) [] caps⟩, ⟨none, none, .oth (.defer c)⟩]) cr))) (hcal : c.callee = .value (.tmp t)) (hargs : c.args = #[]) (ht : t < F.N)
    (M : Fr → Hp → Prop) (hA : AC P G none F.N ca (Sq P G none F.N cb (QD1 M F.rs Kr Kp)) (argFr ds) H)
    (hD : ∀ fr He, M fr He → AC P G none F.N cr (FinD P G g (caps.map (XV G fr)) F.rs Kr) (fr.put (some t) (.func (.func g) [] (caps.map (XV G fr)))) He)
    (hg : ∃ fn, P.funcs[g]? = some fn ∧ fn.body.isNone = false ∧ (fn.name == "runtime.NumGoroutine") = false) : CALL P G f ds H Kr Kp := by
  obtain ⟨fn, c', h1, h2, h3, h4, h5, h6⟩ := cFn_sound hf
  rw [hc] at h4
  obtain ⟨ka, kx, rfl, k1, k2⟩ := cCode_seq h4
  obtain ⟨kb, ky, rfl, k3, k4⟩ := cCode_seq k2
  obtain ⟨kd, kr, rfl, k5, k6⟩ := cCode_seq k4
  obtain ⟨id, ops, rfl, k7⟩ := cCode_reg k5
  obtain ⟨j, rest, o, e1, ho, hcI, hrest⟩ := cAll_cons k7
  obtain ⟨j2, rest2, o2, e2, ho2, hcI2, hrest2⟩ := RG.cons_shape hrest
  have e3 : rest2 = [] := by simpa using hrest2
  subst e3
  obtain ⟨d1, d2, d3, d4⟩ := cIns_shape hcI
  obtain ⟨x1, x2, x3, x4⟩ := cIns_shape hcI2
  have hop2 := cOp_oth x1
  dsimp only at d1 d2 d3 x1 x2 x3
  have hwant : ∀ tm, Region.wanted o (yielded ops tm) = true := by
    intro tm
    rcases d4 with ⟨d4, _⟩ | ⟨_, _, _, _, _, _, d4⟩
    · simp [Region.wanted, d4]
    · cases d4
  have hwant2 : ∀ tm, Region.wanted o2 (yielded ops tm) = true := by
    intro tm
    rcases x4 with ⟨x4, _⟩ | ⟨_, _, _, _, _, _, x4⟩
    · simp [Region.wanted, x4]
    · cases x4
  refine ⟨⟨fn, h1, by simp [h2], h3⟩, fun w Z vs hr hs hv => ?_⟩
  refine (callsIn_wide (n := 0)).1 (callsIn_of_wp_marks (F := Fence.wide) h1 h2 trivial ?_ rfl)
  have hfr := start_FR h6 hl hs hv
  refine wpIn_seq (wpIn_mono (hA ka k1 0 (w.heap.size, []) w Z _ hr hfr) fun e a1 w1 hp => ?_)
  obtain ⟨ex, fr1, H1, Z1, q1, r1, r2, r3, r4⟩ := hp
  cases e <;> cases ex <;> try exact r1.elim
  case exit.exit => exact q1.elim
  case ret.ret => exact bodyM (e := .ret) (ex := .ret) h5 q1 r1 r2 r3 r4
  case panic.panic => exact bodyM (e := .panic _) (ex := .panic _) h5 q1 r1 r2 r3 r4
  refine wpIn_seq (wpIn_mono (q1 kb k3 0 (w.heap.size, []) w1 Z1 a1 r2 r3) fun e a2 w2 hp => ?_)
  obtain ⟨ex, fr2, H2, Z2, q2, s1, s2, s3, s4⟩ := hp
  have s5 := r4.trans s4
  cases e <;> cases ex <;> try exact s1.elim
  case exit.exit => exact q2.elim
  case ret.ret => exact bodyM (e := .ret) (ex := .ret) h5 q2 s1 s2 s3 s5
  case panic.panic => exact bodyM (e := .panic _) (ex := .panic _) h5 q2 s1 s2 s3 s5
  refine wpIn_seq (wpIn_region ?_)
  rw [e1, e2]
  simp only [wpOpsIn, ho, ho2, hwant, hwant2, if_true]
  obtain ⟨v, g1, g2⟩ := evP_sound (d := .func (.func g) [] (caps.map (XV G fr2))) s2 s3 d1 d2 rfl
  refine wpIn_value (r := none) (cOp_defer d1 (fun _ => by simp)) (g1 o rfl) ?_
  rw [d3]
  have s6 := s3.putO (dst := some t) g2
  have hvt := s6.vals t ht
  have hfrt : (fr2.put (some t) (DV.func (.func g) [] (caps.map (XV G fr2)))) t = .func (.func g) [] (caps.map (XV G fr2)) := by
    simp [Fr.put, Fr.set]
  rw [hfrt] at hvt
  obtain ⟨cap, hcap1, hcap2, hcap3⟩ : ∃ cap : Array Value, (a2.put (some t) v).tmps.getD t undef = .func (.func g) #[] cap ∧ cap.size = (caps.map (XV G fr2)).length ∧ (∀ (j : Nat) (v : Value) (d : DV), cap[j]? = some v → (caps.map (XV G fr2))[j]? = some d → VR w2 H2 Z2 v d) := by
    generalize (a2.put (some t) v).tmps.getD t undef = q at hvt
    cases hvt with
    | func fn first cap df dc e1 e2 _ h4 =>
      have : first = #[] := by simpa using e1
      subst this
      exact ⟨cap, rfl, e2, h4⟩
  have hdrun : (execOp (a2.put (some t) v).eval o2).run P w2 = .ok (.defer { target := .fn (.func g) cap, args := #[] }) w2 := by
    have hev : (a2.put (some t) v).eval (.tmp t) = .func (.func g) #[] cap := hcap1
    simp only [execOp, hop2, resolve, hcal, hargs, hev, Deferred.ofValue, Sem.run_bind, Sem.run_pure, Result.andThen_ok, Array.map_empty, Array.append_empty]
  refine ⟨fun _ _ => trivial, ?_⟩
  show o2.uponIn (Wd none) 0 P _ _ _ ((execOp (a2.put (some t) v).eval o2).run P w2)
  rw [hdrun, Oper.uponIn_defer, x3]
  obtain ⟨ms0, em, hm0⟩ := s6.marks
  simp only [List.append_nil] at em
  have hfr4 : FR w2 H2 Z2 (w2.heap.size, { target := .fn (.func g) cap, args := #[] } :: ms0) F.N (({ a2.put (some t) v with defers := { target := .fn (.func g) cap, args := #[] } :: (a2.put (some t) v).defers } : Act).put none undef) (fr2.put (some t) (.func (.func g) [] (caps.map (XV G fr2)))) :=
    ⟨s6.size, s6.vals, ⟨[], by rw [em]; rfl, fun d hd => (by simp at hd), by simp⟩, Nat.le_refl _⟩
  refine wpIn_mono (hD fr2 H2 q2 kr k6 0 _ w2 Z2 _ s2 hfr4) fun e a5 w5 hp => ?_
  obtain ⟨ex, fr5, H5, Z5, q5, t1, t2, t3, t4⟩ := hp
  have core : ∀ (u : FrameMode) (m : Option DV), u ≠ .run → DMode w5 H5 Z5 m u → DCALL P G g (caps.map (XV G fr2)) m H5 (FinR F.rs Kr fr5) → LeavesInM Fence.wide 0 P fn a5.tmps (CPost G Kr Kp w H Z) a5.defers u w5 := by
    intro u m hu hdm hdc
    obtain ⟨ms, e5, hm5⟩ := t3.marks
    rw [e5]
    refine leavesT (lo := w2.heap.size) (He := H5) (Ze := Z5) hu (fun w'' => HR G w'' H5 Z5 ∧ Ext w H Z w'' H5 Z5 ∧ (∀ t, t < F.N → VR w'' H5 Z5 (a5.tmps.getD t undef) (fr5 t)) ∧ DMode w'' H5 Z5 m u ∧
      (∀ (j : Nat) (v : Value) (d : DV), cap[j]? = some v → (caps.map (XV G fr2))[j]? = some d → VR w'' H5 Z5 v d) ∧
      (∀ d ∈ ms0, ∃ b, d.target = .collected b ∧ w.heap.size ≤ b ∧ b < w2.heap.size ∧ b < w''.heap.size ∧ ¬ Z5 b ∧ H5 b = none ∧ w''.heap[b]? = some (.deferred (some [])))) ?_ ?_ ms w5 ⟨t2, s5.trans t4, t3.vals, hdm, fun j v d c1 c2 => (hcap3 j v d c1 c2).ext s2 t4, fun d hd => ?_⟩ hm5
    · rintro w'' b ⟨p1, p2, p3, p4, p5, p6⟩ b1 b2 b3 b4 b5
      obtain ⟨m1, m2, m4⟩ := private_set p1 p2 (Nat.le_trans s5.size b1) b3 b4 (.deferred none)
      refine ⟨m1, m2, fun t ht => m4 _ _ (p3 t ht), ?_, fun j v d c1 c2 => m4 _ _ (p5 j v d c1 c2), fun d hd => ?_⟩
      · cases m with
        | none => exact p4
        | some d => obtain ⟨v, z1, z2⟩ := p4; exact ⟨v, z1, m4 _ _ z2⟩
      · obtain ⟨b', z1, z2, z3, z4, z5, z6, z7⟩ := p6 d hd
        have : b ≠ b' := by omega
        exact ⟨b', z1, z2, z3, by simpa using z4, z5, z6, by simp [Array.getElem?_setIfInBounds, this, z7]⟩
    · rintro w'' ⟨p1, p2, p3, p4, p5, p6⟩
      refine ⟨hu, .inr ⟨fun h => by simp [Wd, Fence.wide] at h, .func g, cap, g, cap, rfl, ?_, fun _ _ => trivial, ?_⟩⟩
      · obtain ⟨fg, f1, f2, f3⟩ := hg
        simp only [invoke, Array.empty_append]
        exact run_enter f1 f2 f3 _ _
      · refine (hdc.2 _ w'' Z5 cap u p1 hcap2 p5 p4).mono ?_
        rintro e u' w6 ⟨⟨v6, rfl⟩, hset, H6, Z6, ⟨l, d, H', q1, q2, q4⟩, g1', g2'⟩
        dsimp only
        rw [hset]
        have hmk : Marks w'' H5 Z5 w.heap.size ms0 := ⟨fun d hd => by
          obtain ⟨b', z1, z2, z3, z4, z5, z6, z7⟩ := p6 d hd
          exact ⟨b', z1, z2, z4, z5, z6, z7⟩, hm0.2⟩
        refine leavesM (w0 := w) (He := H6) (Ze := Z6) (by simp) (fun w'' => HR G w'' H6 Z6 ∧ Ext w H Z w'' H6 Z6 ∧ ∀ t, t < F.N → VR w'' H6 Z6 (a5.tmps.getD t undef) (fr5 t)) ?_ ?_ ms0 w6 ⟨g1', p2.trans g2', fun t ht => (p3 t ht).ext p1 g2'⟩ (hmk.ext g2')
        · rintro w7 b ⟨g1, g2, g3⟩ b1 b2 b3 b4 b5
          obtain ⟨m1, m2, m4⟩ := private_set g1 g2 b1 b3 b4 (.deferred none)
          exact ⟨m1, m2, fun t ht => m4 _ _ (g3 t ht)⟩
        · rintro w7 ⟨g1, g2, g3⟩
          obtain ⟨v, m1, m2⟩ := results_sound (P := P) (fn := fn) g1 g3 h5 q1
          obtain ⟨Z', c1, c2, c3⟩ := q2 _ _ _ g1
          exact ⟨v, m1, d, H', Z', q4, c3 v m2, c1, g2.trans c2⟩
    · obtain ⟨b, z1, z2, z3, z4, z5, z6⟩ := hm0.1 d hd
      obtain ⟨y1, y2, y3⟩ := t4.priv b z3 z4 z5
      exact ⟨b, z1, z2, z3, Nat.lt_of_lt_of_le z3 t4.size, y1, y2, y3.trans z6⟩
  cases e <;> cases ex <;> try exact t1.elim
  · exact core _ none (by simp) rfl q5
  · exact q5.elim
  · exact core _ none (by simp) rfl q5
  · obtain ⟨v, rfl, hvd⟩ := t1
    exact core _ (some _) (by simp) ⟨v, rfl, hvd⟩ q5

/-- A value behind an interface, of this very type. -/
theorem ST.assertY {t xt ty : TypeId} {d : DV} {dst : Option Nat} {r : Option Nat} {N : Nat} {K : Fr → Hp → Prop} {Q : EX → Fr → Hp → Prop} {fr : Fr} {H : Hp} {fs : Array Field} (hu : P.underlying ty = some (.struct fs)) (hx' : fr t = .iface ty d)
    (h : K (fr.put dst (.tup [d, .bool true])) H) : ST P G r N (.oth (.typeAssert (.tmp t) xt ty true)) dst K Q fr H := by
  intro n base w Z a o hc hx hdst hr hf
  have ho := cOp_oth hc
  have ht := oth_slot (t := t) hx (x := [.tmp t]) rfl (by simp)
  have hv := hf.vals t ht
  rw [hx'] at hv
  obtain ⟨v, e1, e2⟩ : ∃ v, a.eval (.tmp t) = .iface ty v ∧ VR w H Z v d := by
    have hv' : VR w H Z (a.eval (.tmp t)) (.iface ty d) := hv
    generalize a.eval (.tmp t) = q at hv'
    cases hv' with
    | iface _ v _ h => exact ⟨v, rfl, h⟩
  have hvt : VR w H Z (.tuple #[v, .bool true]) (.tup [d, .bool true]) := by
    refine .tup _ _ rfl ?_
    intro j x y h1 h2
    match j with
    | 0 => simp at h1 h2; subst h1; subst h2; exact e2
    | 1 => simp at h1 h2; subst h1; subst h2; exact .bool _
    | j + 2 => simp at h2
  refine wpIn_value (v := .tuple #[v, .bool true]) (by rw [ho]; intro c e; cases e) ?_ ⟨_, H, Z, h, hr, by rw [hdst]; exact hf.putO hvt, .refl hr⟩
  simp only [execOp, ho, e1, Instr.typeAssert, Sem.run_bind, run_underlying hu, Result.andThen_ok, if_true, Sem.run_pure]


/-- Nothing behind an interface. -/
theorem ST.assertN {t xt ty : TypeId} {dst : Option Nat} {r : Option Nat} {N : Nat} {K : Fr → Hp → Prop} {Q : EX → Fr → Hp → Prop} {fr : Fr} {H : Hp} {fs : Array Field} {i : TypeInfo} {z0 : Value} {d0 : DV} (hu : P.underlying ty = some (.struct fs))
    (hi : P.info? ty = some i) (hz0 : i.zero = some z0) (hvz : ∀ w H Z, VR w H Z z0 d0) (hx' : fr t = .nilif)
    (h : K (fr.put dst (.tup [d0, .bool false])) H) : ST P G r N (.oth (.typeAssert (.tmp t) xt ty true)) dst K Q fr H := by
  intro n base w Z a o hc hx hdst hr hf
  have ho := cOp_oth hc
  have ht := oth_slot (t := t) hx (x := [.tmp t]) rfl (by simp)
  have hv := hf.vals t ht
  rw [hx'] at hv
  have e1 : a.eval (.tmp t) = .nilIface := by
    have hv' : VR w H Z (a.eval (.tmp t)) .nilif := hv
    generalize a.eval (.tmp t) = q at hv'
    cases hv' with
    | nilif => rfl
  have hvt : VR w H Z (.tuple #[z0, .bool false]) (.tup [d0, .bool false]) := by
    refine .tup _ _ rfl ?_
    intro j x y h1 h2
    match j with
    | 0 => simp at h1 h2; subst h1; subst h2; exact hvz _ _ _
    | 1 => simp at h1 h2; subst h1; subst h2; exact .bool _
    | j + 2 => simp at h2
  refine wpIn_value (v := .tuple #[z0, .bool false]) (by rw [ho]; intro c e; cases e) ?_ ⟨_, H, Z, h, hr, by rw [hdst]; exact hf.putO hvt, .refl hr⟩
  simp only [execOp, ho, e1, Instr.typeAssert, Sem.run_bind, run_underlying hu, Result.andThen_ok, if_true, Sem.run_pure, zeroValue, typeInfo, run_program, hi, hz0]

end
end Go.Run
/- Regions that draw their order, once more: a panic knows the slots that the region does not write. -/
namespace Go.Run
open Go Go.RowKit
section
variable {P : Program} {G : Gl} {r : Option Nat} {N : Nat}

variable (P G r N) in
/-- What an effect does, wherever it comes. -/
def EFf (i : Ins) (K : DV → Hp → Prop) (Kp : DV → Hp → Prop) (fr : Fr) (H : Hp) : Prop :=
  ∀ (fr1 : Fr) (l : List Ins) (Q : EX → Fr → Hp → Prop), (∀ t ∈ slotsI i, fr1 t = fr t) → (∀ d H', K d H' → RG P G r N l Q (fr1.put i.dst d) H') → (∀ d H', Kp d H' → Q (.panic d) fr1 H') → RG P G r N (i :: l) Q fr1 H


variable (P G r N) in
inductive VDf (l : List Ins) (dep : Nat → List Nat) (eff : List Nat) (Q : EX → Fr → Hp → Prop) : List Nat → List Nat → Fr → Hp → Prop
  | val {V pend : List Nat} {fr : Fr} {H : Hp} (i : Nat) (x : Ins) {d : DV} (hx : l[i]? = some x) (he : i ∉ eff) (hv : i ∉ V) (hd : ∀ j ∈ dep i, j ∈ V) (hs : evI G fr H x = some d)
      (k : VDf l dep eff Q (i :: V) (i :: pend) (fr.put x.dst d) H) : VDf l dep eff Q V pend fr H
  | effs {V pend : List Nat} {fr : Fr} {H : Hp} (A : List Nat) (X : Nat → Ins) (K Kp : Nat → DV → Hp → Prop) (hA : A ≠ []) (hx : ∀ i ∈ A, l[i]? = some (X i) ∧ i ∈ eff ∧ i ∉ V ∧ ∀ j ∈ dep i, j ∈ V)
      (ho : ∀ j, j < l.length → j ∉ V → (∀ k ∈ dep j, k ∈ V) → j ∈ A)
      (hs : ∀ i ∈ A, EFf P G r N (X i) (K i) (Kp i) fr H) (hp : ∀ i ∈ A, ∀ d fr' H', Kp i d H' → (∀ t, (∀ (j : Nat) (y : Ins), l[j]? = some y → y.dst ≠ some t) → fr' t = fr t) → Q (.panic d) fr' H')
      (hst : ∀ i ∈ A, ∀ d H', K i d H' → ∀ j ∈ pend, j ∉ dep i → ∀ y, l[j]? = some y → Stab G (fr.put (X i).dst d) H' y)
      (k : ∀ i ∈ A, ∀ d H', K i d H' → VDf l dep eff Q (i :: V) (pend.filter fun j => !(dep i).contains j) (fr.put (X i).dst d) H') : VDf l dep eff Q V pend fr H
  | done {V pend : List Nat} {fr : Fr} {H : Hp} (ha : ∀ j, j < l.length → j ∈ V) (hq : Q .normal fr H) : VDf l dep eff Q V pend fr H


section
variable {l : List Ins} {dep : Nat → List Nat} {eff V pend R : List Nat} {fr fr1 : Fr} {H : Hp}
theorem VDf.sound {Q : EX → Fr → Hp → Prop} (hok : okD l dep eff) (h : VDf P G r N l dep eff Q V pend fr H) : ∀ (π R : List Nat) (fr1 : Fr), Lin l.length dep R π → Beh l dep eff V pend R fr fr1 H G →
    RG P G r N (π.filterMap (l[·]?)) Q fr1 H := by
  induction h with
  | @val V pend fr H i x d hx he hv hd hs k ih =>
    intro π R fr1 hl hb
    have hself : ∀ (j : Nat) (y : Ins), l[j]? = some y → j ∈ V ∨ j = i → ∀ t ∈ slotsI y, x.dst ≠ some t := by
      intro j y hy hj t ht e
      rcases hok.2 i j x y t hx hy e ht with h | ⟨_, h⟩
      · rcases hj with hj | hj
        · exact hv (hb.vd j hj i h)
        · subst hj; exact hv (hd j h)
      · exact he h
    refine ih π R fr1 hl ⟨fun j hj => by simp [hb.sub j hj], fun j hj hr => ?_, fun j hj => ?_, fun j hj k' hk => ?_, fun j hj => ?_, fun t => ?_, fun j hj hr y hy => ?_⟩
    · rcases List.mem_cons.1 hj with rfl | hj
      · simp
      · simp [hb.pnd j hj hr]
    · rcases List.mem_cons.1 hj with rfl | hj
      · exact he
      · exact hb.pe j hj
    · rcases List.mem_cons.1 hj with rfl | hj
      · simp [hd _ hk]
      · simp [hb.vd j hj _ hk]
    · rcases List.mem_cons.1 hj with rfl | hj
      · exact (List.getElem?_eq_some_iff.1 hx).1
      · exact hb.vl j hj
    · by_cases ht : x.dst = some t
      · right; exact ⟨i, x, by simp, fun h => hv (hb.sub i h), hx, ht⟩
      · rw [Fr.put_ne ht]
        rcases hb.mask t with h | ⟨j, y, k1, k2, k3, k4⟩
        · exact .inl h
        · exact .inr ⟨j, y, by simp [k1], k2, k3, k4⟩
    · rcases List.mem_cons.1 hj with rfl | hj
      · rw [hx] at hy
        cases hy
        refine ⟨d, ?_, fun t ht => by rw [ht, Fr.put_eq]⟩
        rw [← hs]
        exact evI_congr fun t ht => Fr.put_ne (hself j x hx (.inr rfl) t ht)
      · obtain ⟨d', h1, h2⟩ := hb.st j hj hr y hy
        refine ⟨d', ?_, fun t ht => ?_⟩
        · rw [← h1]
          exact evI_congr fun t ht => Fr.put_ne (hself j y hy (.inl hj) t ht)
        · rw [← h2 t ht]
          refine Fr.put_ne fun e => ?_
          have := hok.1 i j x y t hx hy e ht
          exact hv (this ▸ hj)
  | @effs V pend fr H A X K Kp hA hxa ho hs hp hst k ih =>
    intro π
    induction π with
    | nil =>
      intro R fr1 hl hb
      obtain ⟨i, hi⟩ := List.exists_mem_of_ne_nil A hA
      obtain ⟨hx, _, hv, _⟩ := hxa i hi
      exact absurd (hb.sub i (hl i (List.getElem?_eq_some_iff.1 hx).1)) hv
    | cons j π ihπ =>
      intro R fr1 hl hb
      obtain ⟨hj, hjR, hjd, hl'⟩ := hl
      have hy : l[j]? = some l[j] := List.getElem?_eq_getElem hj
      rw [List.filterMap_cons, hy]
      by_cases hjV : j ∈ V
      · obtain ⟨d, h1, h2⟩ := hb.pending hok hjV hjR hy hjd
        exact RG.ev h1 (ihπ _ _ hl' h2)
      · have hji := ho j hj hjV (fun k hk => hb.sub k (hjd k hk))
        obtain ⟨hx, he, hv, hd⟩ := hxa j hji
        rw [hx] at hy
        have hy := Option.some.inj hy
        rw [← hy]
        refine hs j hji fr1 _ Q (hb.slot hok hx hjd) (fun d H' hK => ?_) (fun d H' hK => hp j hji d fr1 H' hK (fun t ht => (hb.mask t).elim id (fun ⟨i, x, _, _, h3, h4⟩ => absurd h4 (ht i x h3))))
        refine ih j hji d H' hK π _ _ hl' ⟨fun k hk => ?_, fun k hk hr => ?_, fun k hk => ?_, fun a ha b hb' => ?_, fun a ha => ?_, fun t => ?_, fun a ha hr y hy => ?_⟩
        · rcases List.mem_cons.1 hk with rfl | hk
          · simp
          · simp [hb.sub k hk]
        · have hkR : k ∉ R := fun h => hr (by simp [h])
          rcases List.mem_cons.1 hk with rfl | hk
          · exact absurd (by simp) hr
          · rw [List.mem_filter]
            refine ⟨hb.pnd k hk hkR, ?_⟩
            have : k ∉ dep j := fun h => hkR (hjd k h)
            simpa using this
        · exact hb.pe k (List.mem_filter.1 hk).1
        · rcases List.mem_cons.1 ha with rfl | ha
          · simp [hd b hb']
          · simp [hb.vd a ha b hb']
        · rcases List.mem_cons.1 ha with rfl | ha
          · exact hj
          · exact hb.vl a ha
        · by_cases ht : (X j).dst = some t
          · left; rw [ht, Fr.put_eq, Fr.put_eq]
          · rw [Fr.put_ne ht, Fr.put_ne ht]
            rcases hb.mask t with h | ⟨a, y, k1, k2, k3, k4⟩
            · exact .inl h
            · refine .inr ⟨a, y, by simp [k1], fun h => ?_, k3, k4⟩
              rcases List.mem_cons.1 h with rfl | h
              · exact hv k1
              · exact k2 h
        · have haR : a ∉ R := fun h => hr (by simp [h])
          rcases List.mem_cons.1 ha with rfl | ha
          · exact absurd (by simp) hr
          · exact hst j hji d H' hK a (hb.pnd a ha haR) (fun h => haR (hjd a h)) y hy
  | @done V pend fr H ha hq =>
    intro π
    induction π with
    | nil =>
      intro R fr1 hl hb
      refine RG.nil ?_
      have : fr1 = fr := by
        funext t
        rcases hb.mask t with h | ⟨i, x, h1, h2, h3, h4⟩
        · exact h
        · exact absurd (hl i (List.getElem?_eq_some_iff.1 h3).1) h2
      rw [this]; exact hq
    | cons j π ihπ =>
      intro R fr1 hl hb
      obtain ⟨hj, hjR, hjd, hl'⟩ := hl
      have hy : l[j]? = some l[j] := List.getElem?_eq_getElem hj
      rw [List.filterMap_cons, hy]
      obtain ⟨d, h1, h2⟩ := hb.pending hok (ha j hj) hjR hy hjd
      exact RG.ev h1 (ihπ _ _ hl' h2)
end

theorem AC.drawVf {l : List Ins} {aft : List (List Nat)} (eff : List Nat) {Q : EX → Fr → Hp → Prop} {fr : Fr} {H : Hp} (hok : okDb l aft eff = true) (h : VDf P G r N l (depL aft) eff Q [] [] fr H) :
    AC P G r N (.draw l aft) Q fr H :=
  AC.draw fun π hl => h.sound (okDb_sound hok) π [] fr hl ⟨fun i hi => by simp at hi, fun i hi => by simp at hi, fun i hi => by simp at hi, fun i hi => by simp at hi, fun i hi => by simp at hi, fun t => .inl rfl, fun i hi => by simp at hi⟩

section
variable {Q : EX → Fr → Hp → Prop} {fr : Fr} {H : Hp} {dst : Option Nat} {x : X}
/-- A call as an effect. -/
theorem EFf.call {f : FuncId} {xs : List X} {ds : List DV} {Kr Kp : DV → Hp → Prop} (hx : xs.map (XV G fr) = ds) (h : CALL P G f ds H Kr Kp) : EFf P G r N ⟨dst, none, .call f xs⟩ Kr Kp fr H := by
  intro fr1 l Q hs k kp
  have e : xs.map (XV G fr1) = ds := by
    rw [← hx]
    exact mapXV_congr xs fun x hx => XV_congr fun t ht => hs t (by
      unfold slotsI; exact List.mem_append_left _ (List.mem_flatMap.2 ⟨x, hx, ht⟩))
  exact RG.call (g := none) trivial e h k kp


theorem VDf.pv {is : List Ins} {dep : Nat → List Nat} {eff V pend : List Nat} {op : OP} {d : DV} (i : Nat) (hx : is[i]? = some ⟨dst, none, op⟩) (hok : vdOk dep eff V i = true) (hs : evP G fr H op = some d)
    (k : VDf P G r N is dep eff Q (i :: V) (i :: pend) (fr.put dst d) H) : VDf P G r N is dep eff Q V pend fr H := by
  unfold vdOk at hok
  simp only [Bool.and_eq_true, Bool.not_eq_true', List.all_eq_true] at hok
  exact VDf.val i _ hx (by have := hok.1.1; simpa using this) (by have := hok.1.2; simpa using this) (fun j hj => by have := hok.2 j hj; simpa using this) hs k

theorem VDf.pm {is : List Ins} {dep : Nat → List Nat} {eff V pend : List Nat} {d : DV} (i : Nat) (hx : is[i]? = some ⟨dst, none, .mv x⟩) (hok : vdOk dep eff V i = true) (hs : XV G fr x = d)
    (k : VDf P G r N is dep eff Q (i :: V) (i :: pend) (fr.put dst d) H) : VDf P G r N is dep eff Q V pend fr H := VDf.pv i hx hok (by simp only [evP, hs]) k


theorem VDf.pe {is : List Ins} {dep : Nat → List Nat} {eff V pend : List Nat} {op : OP} {K Kp : DV → Hp → Prop} (i : Nat) (hx : is[i]? = some ⟨dst, none, op⟩) (hok : vdOne is.length dep eff V i = true) (hs : EFf P G r N ⟨dst, none, op⟩ K Kp fr H)
    (hp : ∀ d fr' H', Kp d H' → (∀ t, (∀ (j : Nat) (y : Ins), is[j]? = some y → y.dst ≠ some t) → fr' t = fr t) → Q (.panic d) fr' H')
    (k : ∀ d H', K d H' → (∀ j ∈ pend.filter fun j => !(dep i).contains j, ∀ y, is[j]? = some y → Stab G (fr.put dst d) H' y) ∧ VDf P G r N is dep eff Q (i :: V) (pend.filter fun j => !(dep i).contains j) (fr.put dst d) H') : VDf P G r N is dep eff Q V pend fr H := by
  unfold vdOne at hok
  simp only [Bool.and_eq_true, Bool.not_eq_true', List.all_eq_true, Bool.or_eq_true] at hok
  obtain ⟨⟨⟨h1, h2⟩, h3⟩, h4⟩ := hok
  refine VDf.effs [i] (fun _ => ⟨dst, none, op⟩) (fun _ => K) (fun _ => Kp) (by simp) (fun a ha => ?_) (fun j hj hjV hd => ?_) (fun a ha => hs) (fun a ha => hp) (fun a ha d H' hK j hj hji y hy => (k d H' hK).1 j ?_ y hy) (fun a ha d H' hK => ?_)
  · rw [List.mem_singleton.1 ha]
    exact ⟨hx, by simpa using h1, by simpa using h2, fun j hj => by have := h3 j hj; simpa using this⟩
  rotate_left 2
  · rw [List.mem_singleton.1 ha]
    exact (k d H' hK).2
  · rw [List.mem_singleton]
    rcases h4 j (by simpa using hj) with (h | h) | h
    · simpa using h
    · exact absurd (by simpa using h) hjV
    · have e : (dep j).all V.contains = true := List.all_eq_true.2 fun k hk => by simpa using hd k hk
      rw [e] at h; cases h
  · rw [List.mem_singleton.1 ha] at hji; rw [List.mem_filter]; exact ⟨hj, by simpa using hji⟩

theorem VDf.pd {is : List Ins} {dep : Nat → List Nat} {eff V pend : List Nat} (ha : (List.range is.length).all (fun j => V.contains j) = true) (hq : Q .normal fr H) : VDf P G r N is dep eff Q V pend fr H :=
  VDf.done (fun j hj => by have := List.all_eq_true.1 ha j (by simpa using hj); simpa using this) hq

end
end
end Go.Run
