/- Part 3 of a proof: texts Y R T Z U X J J2 GR Q. -/
import Derived.Test.YthmjdmianbobbaaGreatDoorVB
import Derived.Lib.UnsafeStr
import Derived.Lib.Builder
import Derived.RangeFuncRecord
import Derived.Deep.Draws
import Derived.RecoverIn
namespace Go.Run
open Go Go.RowKit
section
variable {P : Program} {G : Gl} {r : Option Nat} {N : Nat} {w : World} {H : Hp} {Z : Zn}
set_option maxHeartbeats 1000000 in
theorem cOp_oth {o o' : Op} (h : cOp P o = some (.oth o')) : o = o' := by
 cases o
 all_goals (first | (cases h; done) | skip)
 all_goals simp only [cOp] at h
 all_goals repeat' (first | (rw [Option.bind_eq_some_iff] at h; obtain ⟨_, _, h⟩ := h) | split at h)
 all_goals first | (cases h; done) | (cases h; rfl)
theorem oth_slot {o : Op} {t : Nat} {x : List Operand} (hx : (opX (.oth o)).all (XOk N) = true) (ho : o.operands.toList = x) (ht : Operand.tmp t ∈ x) : t < N := by
 simp only [opX, List.all_map, List.all_eq_true] at hx
 have := hx (.tmp t) (by rw [ho]; exact ht)
 simpa [cX, XOk] using this
theorem shape_of {b : Nat} {arr : Array Value} {ty : TypeId} {fz : Nat × Nat} (h : w.heap[b]? = some (.cells arr ty fz)) : w.shape? b = some (ty, arr.size) := by
 simp [World.shape?, h]
theorem ST.p2u {s d t e b off : Nat} {u : Nat} {j : TypeInfo} {cs : List DV} {dst : Option Nat} {K : Fr → Hp → Prop} {Q : EX → Fr → Hp → Prop} {fr : Fr} (hs : P.underlying s = some (.pointer u)) (hd : P.underlying d = some .unsafePointer) (hj : P.info? u = some j) (hj0 : j.size ≠ 0)
  (hx' : fr t = .ptr b off) (hb : H b = some (.cells cs e)) (hoff : off < cs.length) (h : K (fr.put dst (.ptr b off)) H) : ST P G r N (.oth (.convert s d (.tmp t))) dst K Q fr H := by
 intro n base w Z a o hc hx hdst hr hf
 have ho := cOp_oth hc
 have ht := oth_slot (t := t) hx (x := [.tmp t]) rfl (by simp)
 have hv := hf.vals t ht
 rw [hx'] at hv
 have hA := hv.ptr_inv
 obtain ⟨arr, fz, h1, h2, h3, h4, h5⟩ := hr.obj b _ hb
 have hrun := Lib.run_to_unsafe (P := P) w ⟨b, off, none⟩ hs hd hj hj0 (shape_of h1) (by show off < arr.size; omega)
 refine wpIn_value (v := .pointer (some ⟨b, off, none⟩)) (by rw [ho]; intro c e; cases e) ?_ ⟨_, H, Z, h, hr, by rw [hdst]; exact hf.putO (.ptr b off), .refl hr⟩
 have hA' : a.eval (.tmp t) = .pointer (some ⟨b, off, none⟩) := hA
 simp only [execOp, ho, Sem.run_bind, hA', hrun, Result.andThen_ok, Sem.run_pure]
theorem ST.u2p {s d t e b off : Nat} {u : Nat} {j : TypeInfo} {cs : List DV} {dst : Option Nat} {K : Fr → Hp → Prop} {Q : EX → Fr → Hp → Prop} {fr : Fr} (hs : P.underlying s = some .unsafePointer) (hd : P.underlying d = some (.pointer u)) (hj : P.info? u = some j)
  (hx' : fr t = .ptr b off) (hb : H b = some (.cells cs e)) (hl : liesAt P P.depth e (cs.length / P.cellsOf e) off u 1 = true) (h : K (fr.put dst (.ptr b off)) H) : ST P G r N (.oth (.convert s d (.tmp t))) dst K Q fr H := by
 intro n base w Z a o hc hx hdst hr hf
 have ho := cOp_oth hc
 have ht := oth_slot (t := t) hx (x := [.tmp t]) rfl (by simp)
 have hv := hf.vals t ht
 rw [hx'] at hv
 have hA := hv.ptr_inv
 obtain ⟨arr, fz, h1, h2, h3, h4, h5⟩ := hr.obj b _ hb
 have hrun := Lib.run_from_unsafe (P := P) w ⟨b, off, none⟩ hs hd hj (shape_of h1) (by rw [h3]; exact hl)
 refine wpIn_value (v := .pointer (some ⟨b, off, none⟩)) (by rw [ho]; intro c e; cases e) ?_ ⟨_, H, Z, h, hr, by rw [hdst]; exact hf.putO (.ptr b off), .refl hr⟩
 have hA' : a.eval (.tmp t) = .pointer (some ⟨b, off, none⟩) := hA
 simp only [execOp, ho, Sem.run_bind, hA', hrun, Result.andThen_ok, Sem.run_pure]
theorem ST.noEscape {f : FuncId} {x : X} {fn : Func} {d : DV} {dst : Option Nat} {K : Fr → Hp → Prop} {Q : EX → Fr → Hp → Prop} {fr : Fr} (hf' : P.funcs[f]? = some fn) (hb : fn.body = none) (hnm : (fn.name == "runtime.NumGoroutine") = false)
  (hn : Extern.findNext fn = none) (he : Extern.find fn = some Extern.AbiNoEscape.same) (hx : XV G fr x = d) (h : K (fr.put dst d) H) : ST P G r N (.call f [x]) dst K Q fr H := by
 refine ST.ext hf' hb hnm hn he (fun w Z vs hr hs hv => ?_) h
 have hs' : vs.size = 1 := by simpa using hs
 obtain ⟨v, rfl⟩ : ∃ v, vs = #[v] := ⟨vs[0], by apply Array.ext (by simpa using hs'); intro i h1 h2; simp at h2; subst h2; rfl⟩
 exact ⟨v, Lib.run_noEscape w v, hv 0 v d rfl (by simp [hx])⟩
theorem retire (hr : HR G w H Z) {g f sz : Nat} {ty : TypeId} (hg : H g = some (.front f sz ty)) {arr : Array Value} {fz fz' : Nat × Nat} (hw : w.heap[g]? = some (.cells arr ty fz)) {w' : World}
  (hos : w'.os = w.os) (htape : w'.tape = w.tape) (hout : w'.output = w.output) (hsz : w'.heap.size = w.heap.size) (hne : ∀ k, k ≠ g → w'.heap[k]? = w.heap[k]?) (hw' : w'.heap[g]? = some (.cells arr ty fz')) :
  HR G w' (H.upd g none) (fun b => Z b ∨ b = g) ∧ Ext w H Z w' (H.upd g none) (fun b => Z b ∨ b = g) := by
 have hd := hr.dom g _ hg
 have hx : Ext w H Z w' (H.upd g none) (fun b => Z b ∨ b = g) := {
  size := by omega
  os := hos
  tape := htape
  output := hout
  imm := fun k hk => by
   have hkg : k ≠ g := fun e => hd.2 (e ▸ hk)
   exact ⟨.inl hk, by rw [Hp.upd_ne hkg]; exact hr.apart hk, hne k hkg⟩
  priv := fun k hk hz hh => by
   have hkg : k ≠ g := fun e => by rw [e, hg] at hh; cases hh
   exact ⟨fun h => h.elim hz hkg, by rw [Hp.upd_ne hkg]; exact hh, hne k hkg⟩
  frt := fun k f' s' ty' hk _ => by
   have hkg : k ≠ g := fun e => by rw [e, Hp.upd_same] at hk; cases hk
   rw [Hp.upd_ne hkg] at hk
   exact ⟨f', hk, Nat.le_refl _⟩
  pre := fun k f' s' ty' hk => by
   by_cases hkg : k = g
   · subst hkg
     rw [hg] at hk
     cases hk
     refine ⟨.inl (.inr rfl), fun a z ha => ?_⟩
     rw [hw] at ha
     cases ha
     exact ⟨arr, fz', hw', rfl, fun _ _ => rfl⟩
   · exact ⟨.inr ⟨f', Nat.le_refl _, by rw [Hp.upd_ne hkg]; exact hk⟩, fun a z ha => ⟨a, z, (hne k hkg).trans ha, rfl, fun _ _ => rfl⟩⟩ }
 refine ⟨⟨fun k o e => ?_, fun k hk => ?_, fun k o e => ?_, fun g' cs e => (hr.glob g' cs e).ext hr hx⟩, hx⟩
 · have hkg : k ≠ g := fun e' => by rw [e', Hp.upd_same] at e; cases e
   rw [Hp.upd_ne hkg] at e
   have := hr.dom k o e
   exact ⟨by omega, fun h => h.elim this.2 hkg⟩
 · rcases hk with hk | rfl
   · have := hr.zlt k hk; omega
   · omega
 · have hkg : k ≠ g := fun e' => by rw [e', Hp.upd_same] at e; cases e
   rw [Hp.upd_ne hkg] at e
   exact (hr.obj k o e).ext hr hx (hne k hkg)
theorem ST.sdata {t g n : Nat} {ty : TypeId} {c : DV} {cs : List DV} {tys : Array TypeId} {dst : Option Nat} {K : Fr → Hp → Prop} {Q : EX → Fr → Hp → Prop} {fr : Fr} (hx' : fr t = .lst (c :: cs) n 1 (some (g, 0))) (hg : H g = some (.front n 1 ty))
  (h : K (fr.put dst (.ptr g 0)) H) : ST P G r N (.oth (.call ⟨.builtin .unsafeSliceData, #[.tmp t], tys⟩)) dst K Q fr H := by
 intro n0 base w Z a o hc hx hdst hr hf
 have ho := cOp_oth hc
 have ht := oth_slot (t := t) hx (x := [.tmp t]) (by simp [Op.operands, Call.operands]) (by simp)
 have hv := hf.vals t ht
 rw [hx'] at hv
 obtain ⟨A, cp, vs, hA, k1, k2, k4, kt, kA⟩ := hv.lst_inv
 obtain ⟨_, kt2⟩ := kt g 0 rfl
 obtain ⟨_, kt3⟩ := kt2 n 1 ty hg
 obtain ⟨_, rfl, arr, fz, kw, ksz⟩ := kt3 (by omega)
 simp only [Nat.zero_mul] at hA
 have hcp : cp ≠ 0 := by simp at k1; omega
 have hA' : a.eval (.tmp t) = .slice (some ⟨g, 0, none⟩) n cp := hA
 have hrun := Lib.run_unsafeSliceData_row (P := P) w tys o.type ⟨g, 0, none⟩ n cp hcp
 refine wpIn_value (v := .pointer (some ⟨g, 0, none⟩)) (by rw [ho]; intro c e; cases e) ?_ ⟨_, H, Z, h, hr, by rw [hdst]; exact hf.putO (.ptr g 0), .refl hr⟩
 simp only [execOp, ho, resolve, List.map_toArray, List.map_cons, List.map_nil, invoke, builtin, Sem.run_bind, Sem.run_pure, Result.andThen_ok, hA', hrun]
theorem ST.sdata_nil {t : Nat} {tys : Array TypeId} {dst : Option Nat} {K : Fr → Hp → Prop} {Q : EX → Fr → Hp → Prop} {fr : Fr} (hx' : fr t = .nils)
  (h : K (fr.put dst .nilp) H) : ST P G r N (.oth (.call ⟨.builtin .unsafeSliceData, #[.tmp t], tys⟩)) dst K Q fr H := by
 intro n0 base w Z a o hc hx hdst hr hf
 have ho := cOp_oth hc
 have ht := oth_slot (t := t) hx (x := [.tmp t]) (by simp [Op.operands, Call.operands]) (by simp)
 have hv := hf.vals t ht
 rw [hx'] at hv
 have hA' : a.eval (.tmp t) = .slice none 0 0 := by
  show a.tmps.getD t undef = _
  generalize a.tmps.getD t undef = q at hv
  cases hv; rfl
 have hrun := Lib.run_unsafeSliceData_nil (P := P) w tys o.type 0 0
 refine wpIn_value (v := .pointer none) (by rw [ho]; intro c e; cases e) ?_ ⟨_, H, Z, h, hr, by rw [hdst]; exact hf.putO .nilp, .refl hr⟩
 simp only [execOp, ho, resolve, List.map_toArray, List.map_cons, List.map_nil, invoke, builtin, Sem.run_bind, Sem.run_pure, Result.andThen_ok, hA', hrun]
theorem ST.ustr_nil {t u : Nat} {pt it : TypeId} {dst : Option Nat} {K : Fr → Hp → Prop} {Q : EX → Fr → Hp → Prop} {fr : Fr} (hx' : fr t = .nilp) (hy' : fr u = .int .i64 0)
  (h : K (fr.put dst (.str [])) H) : ST P G r N (.oth (.call ⟨.builtin .unsafeString, #[.tmp t, .tmp u], #[pt, it]⟩)) dst K Q fr H := by
 intro n0 base w Z a o hc hx hdst hr hf
 have ho := cOp_oth hc
 have ht := oth_slot (t := t) hx (x := [.tmp t, .tmp u]) (by simp [Op.operands, Call.operands]) (List.mem_cons_self ..)
 have hu := oth_slot (t := u) hx (x := [.tmp t, .tmp u]) (by simp [Op.operands, Call.operands]) (by simp)
 have hv := hf.vals t ht
 have hv2 := hf.vals u hu
 rw [hx'] at hv
 rw [hy'] at hv2
 have hA' : a.eval (.tmp t) = .pointer none := by
  show a.tmps.getD t undef = _
  generalize a.tmps.getD t undef = q at hv
  cases hv; rfl
 have hB' : a.eval (.tmp u) = .int .i64 0 := hv2.int_inv
 have hrun := Lib.run_unsafeString_none (P := P) w pt it o.type none
 refine wpIn_value (v := .string .empty) (by rw [ho]; intro c e; cases e) ?_ ⟨_, H, Z, h, hr, by rw [hdst]; exact hf.putO (.str _ _ rfl), .refl hr⟩
 simp only [execOp, ho, resolve, List.map_toArray, List.map_cons, List.map_nil, invoke, builtin, Sem.run_bind, Sem.run_pure, Result.andThen_ok, hA', hB', hrun]
theorem ST.ustr {t u g b k : Nat} {pt it ty ty' : TypeId} {s : List UInt8} {cs : List DV} {dst : Option Nat} {K : Fr → Hp → Prop} {Q : EX → Fr → Hp → Prop} {fr : Fr} (hpt : P.underlying pt = some (.pointer ty)) (hce : P.cellsOf ty = 1) (hs : s ≠ []) (h63 : s.length ≤ 9223372036854775807)
  (hx' : fr t = .ptr g 0) (hy' : fr u = .int .i64 s.length) (hg : H g = some (.front s.length 1 ty)) (hb : H b = some (.cells cs ty')) (hk : cs[k]? = some (.lst (s.map B8) s.length 1 (some (g, 0))))
  (h : K (fr.put dst (.str s)) (H.upd g none)) : ST P G r N (.oth (.call ⟨.builtin .unsafeString, #[.tmp t, .tmp u], #[pt, it]⟩)) dst K Q fr H := by
 intro n0 base w Z a o hc hx hdst hr hf
 have ho := cOp_oth hc
 have ht := oth_slot (t := t) hx (x := [.tmp t, .tmp u]) (by simp [Op.operands, Call.operands]) (List.mem_cons_self ..)
 have hu := oth_slot (t := u) hx (x := [.tmp t, .tmp u]) (by simp [Op.operands, Call.operands]) (by simp)
 have hv := hf.vals t ht
 have hv2 := hf.vals u hu
 rw [hx'] at hv
 rw [hy'] at hv2
 have hA' : a.eval (.tmp t) = .pointer (some ⟨g, 0, none⟩) := hv.ptr_inv
 have hB' : a.eval (.tmp u) = .int .i64 s.length := hv2.int_inv
 obtain ⟨arrb, fzb, q1, q2, q3, q4, q5⟩ := hr.obj b _ hb
 have hkl : k < arrb.size := by rw [q3]; exact (List.getElem?_eq_some_iff.1 hk).1
 have hl := q5 k _ _ (Array.getElem?_eq_getElem hkl) hk
 obtain ⟨A, cp, vs, hA, k1, k2, k4, kt, kA⟩ := hl.lst_inv
 obtain ⟨_, kt2⟩ := kt g 0 rfl
 obtain ⟨_, kt3⟩ := kt2 s.length 1 ty hg
 obtain ⟨_, rfl, arr, fz, kw, ksz⟩ := kt3 (by omega)
 obtain ⟨A', e1, hcp⟩ := kA (by simpa using hs)
 cases e1
 have hcell : ∀ (j : Nat) (x : UInt8), s[j]? = some x → w.cell? ((⟨g, 0, none⟩ : Addr).add j) = some (.int .u8 x.toNat) := by
  intro j x hj
  have hj' := (List.getElem?_eq_some_iff.1 hj).1
  obtain ⟨c1, _⟩ := hcp.cell j (by simpa using hj')
  have c2 := hcp.val j (B8 x) (by simp [hj])
  have c3 : vs j = .int .u8 (x.toNat : Int) := by unfold B8 at c2; exact c2.int_inv
  rw [← c3, ← c1, add_off rfl]
 have hrun := Lib.run_unsafeString_row (P := P) w pt it o.type ty hpt hce g arr.size (shape_of kw) s hs (by rw [ksz]; omega) h63 hcell
 have hn0 : s.length ≠ 0 := by simpa using hs
 have hw' : ∃ fz', (w.freeze ⟨g, 0, none⟩ s.length).heap[g]? = some (.cells arr ty fz') := by
  simp only [World.freeze, if_neg hn0, Array.getElem?_modify, kw, Option.map_some, if_true]
  exact ⟨_, rfl⟩
 obtain ⟨fz', hw'⟩ := hw'
 obtain ⟨m1, m2⟩ := retire hr hg kw (w' := w.freeze ⟨g, 0, none⟩ s.length) (fz' := fz') (by simp [World.freeze, hs]) (by simp [World.freeze, hs]) (by simp [World.freeze, hs]) (by simp [World.freeze, hs])
  (fun k hk => by simp only [World.freeze, if_neg hn0, Array.getElem?_modify]; rw [if_neg (fun e => hk e.symm)]) hw'
 refine wpIn_value (v := .string ⟨s.toArray⟩) (by rw [ho]; intro c e; cases e) ?_ ⟨_, H.upd g none, _, h, m1, by rw [hdst]; exact (hf.ext hr m2).putO (.str _ _ (by simp)), m2⟩
 simp only [execOp, ho, resolve, List.map_toArray, List.map_cons, List.map_nil, invoke, builtin, Sem.run_bind, Sem.run_pure, Result.andThen_ok, hA', hB', hrun]
end
section
variable {P : Program} {G : Gl} {r : Option Nat} {N : Nat} {w : World} {H : Hp} {Z : Zn}
def putAll : Fr → List Nat → List DV → Fr
 | fr, p :: ps, d :: ds => putAll (fr.set p d) ps ds
 | fr, _, _ => fr
variable (P G) in
def YLD (l : Nat) (ds : List DV) (H : Hp) (Kr Kp : DV → Hp → Prop) : Prop :=
 ∀ (r : Option Nat) (n : Nat) (w : World) (Z : Zn) (vs : Array Value), HR G w H Z → vs.size = ds.length → (∀ (j : Nat) (v : Value) (d : DV), vs[j]? = some v → ds[j]? = some d → VR w H Z v d) →
  ∃ f tmps as bd, (Instr.yield l vs).run P w = .ok (.round l f tmps as bd) w ∧ RoundIn (Wd r) n P l f tmps as bd w (CPost G Kr Kp w H Z)
theorem putAll_sound {base : Nat} : ∀ (ps : List Nat) (ds : List DV) (vs : List Value) (fr : Fr) (tmps : Array Value), vs.length = ds.length → tmps.size = N → (∀ t, t < N → VR w H Z (tmps.getD t undef) (fr t)) →
  (∀ (j : Nat) (v : Value) (d : DV), vs[j]? = some v → ds[j]? = some d → VR w H Z v d) → base ≤ w.heap.size →
  FR w H Z (base, []) N { tmps := (ps.zip vs).foldl (fun tmps (t, a) => tmps.setIfInBounds t a) tmps, defers := [] } (putAll fr ps ds)
 | [], ds, vs, fr, tmps, _, hs, hf, _, hb => ⟨hs, hf, MarksB.nil, hb⟩
 | p :: ps, [], [], fr, tmps, _, hs, hf, _, hb => ⟨hs, hf, MarksB.nil, hb⟩
 | p :: ps, d :: ds, v :: vs, fr, tmps, hl, hs, hf, hv, hb => by
   have h0 : FR w H Z (base, []) N { tmps := tmps, defers := [] } fr := ⟨hs, hf, MarksB.nil, hb⟩
   have h1 := h0.put (t := p) (hv 0 v d rfl rfl)
   exact putAll_sound ps ds vs _ _ (by simpa using hl) h1.size h1.vals (fun j v' d' h1 h2 => hv (j + 1) v' d' (by simpa using h1) (by simpa using h2)) hb
 | _ :: _, [], _ :: _, _, _, hl, _, _, _, _ => by simp at hl
 | _ :: _, _ :: _, [], _, _, hl, _, _, _, _ => by simp at hl
theorem set_loop (hr : HR G w H Z) {l : Nat} {ps : List Nat} {as bd : Code} {fr : Fr} {st st' : LoopState} {pend pend' : Option Code} (hl : H l = some (.loop N ps as bd fr st pend)) {L : Loop} (hw : w.heap[l]? = some (.loop L)) :
  HR G (w.putObj l (.loop { L with state := st', pending := pend' })) (H.upd l (some (.loop N ps as bd fr st' pend'))) Z ∧ Ext w H Z (w.putObj l (.loop { L with state := st', pending := pend' })) (H.upd l (some (.loop N ps as bd fr st' pend'))) Z := by
 have hd := hr.dom l _ hl
 have hne : ∀ k, k ≠ l → (w.putObj l (.loop { L with state := st', pending := pend' })).heap[k]? = w.heap[k]? := fun k hk => World.putObj_heap_other hk
 have hx : Ext w H Z (w.putObj l (.loop { L with state := st', pending := pend' })) (H.upd l (some (.loop N ps as bd fr st' pend'))) Z := {
  size := by simp
  os := rfl
  tape := rfl
  output := rfl
  imm := fun k hk => by
   have hkl : k ≠ l := fun e => hd.2 (e ▸ hk)
   exact ⟨hk, by rw [Hp.upd_ne hkl]; exact hr.apart hk, hne k hkl⟩
  priv := fun k hk hz hh => by
   have hkl : k ≠ l := fun e => by rw [e, hl] at hh; cases hh
   exact ⟨hz, by rw [Hp.upd_ne hkl]; exact hh, hne k hkl⟩
  frt := fun k f' s' ty' hk _ => by
   have hkl : k ≠ l := fun e => by rw [e, Hp.upd_same] at hk; cases hk
   rw [Hp.upd_ne hkl] at hk
   exact ⟨f', hk, Nat.le_refl _⟩
  pre := fun k f' s' ty' hk => by
   have hkl : k ≠ l := fun e => by rw [e, hl] at hk; cases hk
   exact ⟨.inr ⟨f', Nat.le_refl _, by rw [Hp.upd_ne hkl]; exact hk⟩, fun a z ha => ⟨a, z, (hne k hkl).trans ha, rfl, fun _ _ => rfl⟩⟩ }
 refine ⟨⟨fun k o e => ?_, fun k hk => by simpa using hr.zlt k hk, fun k o e => ?_, fun g cs e => (hr.glob g cs e).ext hr hx⟩, hx⟩
 · by_cases h : k = l
   · subst h; exact ⟨by simpa using hd.1, hd.2⟩
   · rw [Hp.upd_ne h] at e
     have := hr.dom k o e
     exact ⟨by simpa using this.1, this.2⟩
 · by_cases h : k = l
   · subst h
     rw [Hp.upd_same] at e
     cases e
     obtain ⟨L0, h1, h2, h3, h4, h5, h6, h7, h8⟩ := hr.obj k _ hl
     rw [hw] at h1
     cases h1
     exact ⟨_, World.putObj_heap_same hd.1, rfl, rfl, h4, h5, h6, h7, fun t ht => (h8 t ht).ext hr hx⟩
   · rw [Hp.upd_ne h] at e
     exact (hr.obj k o e).ext hr hx (hne k h)
def Rnd (l : Nat) (N : Nat) (ps : List Nat) (as bd : Code) (fr : Fr) (Kr : DV → Hp → Prop) : EX → Fr → Hp → Prop
 | .normal, _, He => He l = some (.loop N ps as bd fr .busy none) ∧ ∃ H', SubH H' (He.upd l (some (.loop N ps as bd fr .ready none))) ∧ Kr (.bool true) H'
 | .exit id, _, He => He l = some (.loop N ps as bd fr .busy none) ∧ ∃ H', SubH H' (He.upd l (some (.loop N ps as bd fr .done (some (.exit id))))) ∧ Kr (.bool false) H'
 | .ret, _, He => He l = some (.loop N ps as bd fr .busy none) ∧ ∃ H', SubH H' (He.upd l (some (.loop N ps as bd fr .done (some .ret)))) ∧ Kr (.bool false) H'
 | .panic _, _, _ => False
theorem YLD.of {l : Nat} {ps : List Nat} {as bd : Code} {cas cbd : CC} {fr : Fr} {ds : List DV} {Kr Kp : DV → Hp → Prop} (hl : H l = some (.loop N ps as bd fr .ready none)) (hlen : ds.length = ps.length)
  (ha : cCode P N as = some cas) (hb : cCode P N bd = some cbd)
  (h : AC P G (some l) N cas (fun e fr1 H1 => e = .normal ∧ H1 l = some (.loop N ps as bd fr .ready none) ∧ AC P G (some l) N cbd (Rnd l N ps as bd fr Kr) fr1 (H1.upd l (some (.loop N ps as bd fr .busy none)))) (putAll fr ps ds) H) :
  YLD P G l ds H Kr Kp := by
 intro r0 n w Z vs hr hs hv
 obtain ⟨L, h1, h2, h3, h4, h5, h6, h7, h8⟩ := hr.obj l _ hl
 have hps : vs.size = L.params.size := by rw [hs, hlen, ← h4]; simp
 refine ⟨L.fn, _, L.assign, L.body, run_yield h1 hps, ?_⟩
 refine roundIn_of_wpIn (F := Wd r0) trivial ?_
 rw [h5, h6]
 have hfold : (L.params.zip vs).foldl (fun tmps (t, a) => tmps.setIfInBounds t a) L.tmps = (ps.zip vs.toList).foldl (fun tmps (t, a) => tmps.setIfInBounds t a) L.tmps := by
  rw [← Array.foldl_toList, Array.toList_zip, h4]
 have hfr := putAll_sound (N := N) (base := w.heap.size) ps ds vs.toList fr L.tmps (by simpa using hs) h7 h8 (fun j v d e1 e2 => hv j v d (by simpa using e1) e2) (Nat.le_refl _)
 rw [hfold]
 have hin : (Wd r0).inRound l = Wd (some l) := rfl
 rw [hin]
 refine wpIn_mono (h as ha n (w.heap.size, []) w Z _ hr hfr) fun e a' w' hp => ?_
 obtain ⟨ex, fr', He, Ze, q, k1, k2, k3, k4⟩ := hp
 obtain ⟨rfl, q1, q2⟩ := q
 cases e <;> first | (exact k1.elim; done) | skip
 -- begin the round
 obtain ⟨L1, g1, g2, g3, g4, g5, g6, g7, g8⟩ := k2.obj l _ q1
 have hbeg := run_beginRound (P := P) g1 g2
 have e1 : { L1 with state := LoopState.busy } = { L1 with state := LoopState.busy, pending := none } := by rw [← g3]
 obtain ⟨m1, m2⟩ := set_loop k2 (st' := .busy) (pend' := none) q1 g1
 refine ⟨_, hbeg, ?_⟩
 rw [e1]
 refine wpIn_mono (q2 bd hb n (w.heap.size, []) _ Ze a' m1 (k3.ext k2 m2)) fun e a2 w2 hp => ?_
 obtain ⟨ex, fr2, He2, Ze2, q, p1, p2, p3, p4⟩ := hp
 have hx2 := (k4.trans m2).trans p4
 have fin : ∀ (jump : Option Code) (b : Bool), jump.isNone = b → He2 l = some (.loop N ps as bd fr .busy none) → (∃ H', SubH H' (He2.upd l (some (.loop N ps as bd fr (if jump.isNone then .ready else .done) jump))) ∧ Kr (.bool b) H') →
   ∃ v w', (Instr.endRound l jump).run P w2 = .ok v w' ∧ CPost G Kr Kp w H Z (.returned v) w' := by
  rintro jump b rfl hl2 ⟨H', hsub, hK⟩
  obtain ⟨L2, f1, f2, f3, f4, f5, f6, f7, f8⟩ := p2.obj l _ hl2
  obtain ⟨n1, n2⟩ := set_loop p2 (st' := if jump.isNone then .ready else .done) (pend' := jump) hl2 f1
  exact ⟨_, _, run_endRound jump f1, .bool jump.isNone, H', _, hK, .bool _, n1.drop hsub, (hx2.trans n2).drop hsub⟩
 cases e <;> cases ex <;> try exact p1.elim
 · exact fin none true rfl q.1 q.2
 · rename_i i j
   have : i = j := p1
   subst this
   exact fin (some (.exit i)) false rfl q.1 q.2
 · exact fin (some .ret) false rfl q.1 q.2
 · exact q.elim
def CALV (P : Program) (G : Gl) (fv : DV) (ds : List DV) (H : Hp) (Kr Kp : DV → Hp → Prop) : Prop :=
 (∃ f df dc, fv = .func (.func f) df dc ∧ CALL P G f (df ++ ds ++ dc) H Kr Kp) ∨ (∃ l, fv = .func (.yield l) [] [] ∧ YLD P G l ds H Kr Kp)
theorem YLD.mono {l : Nat} {ds : List DV} {Kr Kp Kr' Kp' : DV → Hp → Prop} (h : YLD P G l ds H Kr Kp) (h1 : ∀ d H', Kr d H' → Kr' d H') (h2 : ∀ d H', Kp d H' → Kp' d H') : YLD P G l ds H Kr' Kp' := by
 intro r n w Z vs hr hs hv
 obtain ⟨f, tmps, as, bd, k1, k2⟩ := h r n w Z vs hr hs hv
 refine ⟨f, tmps, as, bd, k1, k2.mono fun e w' he => ?_⟩
 cases e with
 | returned v => obtain ⟨d, H', Z', k, rest⟩ := he; exact ⟨d, H', Z', h1 _ _ k, rest⟩
 | panicked ch => obtain ⟨v, d, H', Z', e1, k, rest⟩ := he; exact ⟨v, d, H', Z', e1, h2 _ _ k, rest⟩
 | outgrown => exact he
theorem CALV.mono {fv : DV} {ds : List DV} {Kr Kp Kr' Kp' : DV → Hp → Prop} (h : CALV P G fv ds H Kr Kp) (h1 : ∀ d H', Kr d H' → Kr' d H') (h2 : ∀ d H', Kp d H' → Kp' d H') : CALV P G fv ds H Kr' Kp' := by
 rcases h with ⟨f, df, dc, e, h⟩ | ⟨l, e, h⟩
 · exact .inl ⟨f, df, dc, e, h.mono h1 h2⟩
 · exact .inr ⟨l, e, h.mono h1 h2⟩
theorem ST.yld {l : Nat} {x : X} {xs : List X} {dst : Option Nat} {K : Fr → Hp → Prop} {Q : EX → Fr → Hp → Prop} {fr : Fr} (hx' : XV G fr x = .func (.yield l) [] [])
  (h : YLD P G l (xs.map (XV G fr)) H (fun d H' => K (fr.put dst d) H') (fun d H' => Q (.panic d) fr H')) : ST P G r N (.calv x xs) dst K Q fr H := by
 intro n base w Z a o hc hx hd hr hf
 obtain ⟨c, y, ho, hcal, rfl, rfl⟩ := cOp_calv hc
 simp only [opX, List.all_cons, Bool.and_eq_true] at hx
 have hy := cX_sound hr hf hx.1
 rw [hx'] at hy
 obtain ⟨h1, h2⟩ := vr_map hr hf c.args hx.2
 obtain ⟨f, tmps, as, bd, k1, k2⟩ := h r (n - 1) w Z (c.args.map a.eval) hr (by simp) (by simpa [List.map_map, Function.comp_def] using h2)
 have hv : a.eval y = .func (.yield l) #[] #[] := by
  generalize a.eval y = q at hy
  cases hy with
  | func fn first cap df dc e1 e2 _ _ =>
    have : first = #[] := by simpa using e1
    have : cap = #[] := by simpa using e2
    subst first; subst cap; rfl
 refine ⟨about_wide o w _, ?_⟩
 rw [Oper.semAt_eq _ _ _ (by rw [ho]; intro c e; cases e)]
 have hrun : (execOp a.eval o).run P w = .ok (.round l f tmps as bd) w := by
  simp only [execOp, ho, resolve, hcal, hv, Deferred.ofValue, Sem.run_bind, Sem.run_pure, Result.andThen_ok, invoke, Array.empty_append, Array.append_empty]
  exact k1
 rw [hrun]
 refine ⟨fun h => by simp [Wd, Fence.wide] at h, k2.mono fun e w' he => ?_⟩
 cases e with
 | returned v =>
   obtain ⟨d, H', Z', k, hvd, hr', hx⟩ := he
   exact ⟨_, H', Z', k, hr', by rw [hd]; exact (hf.ext hr hx).putO hvd, hx⟩
 | panicked ch =>
   obtain ⟨v, d, H', Z', e1, k, hvd, hr', hx⟩ := he
   exact ⟨.panic d, fr, H', Z', k, ⟨v, e1, hvd⟩, hr', hf.ext hr hx, hx⟩
 | outgrown => exact he.elim
theorem ST.calV {x : X} {xs : List X} {dst : Option Nat} {K : Fr → Hp → Prop} {Q : EX → Fr → Hp → Prop} {fr : Fr} (h : CALV P G (XV G fr x) (xs.map (XV G fr)) H (fun d H' => K (fr.put dst d) H') (fun d H' => Q (.panic d) fr H')) : ST P G r N (.calv x xs) dst K Q fr H := by
 rcases h with ⟨f, df, dc, e, h⟩ | ⟨l, e, h⟩
 · exact ST.calv e h
 · exact ST.yld e h
theorem alloc_priv (hr : HR G w H Z) (ob : Obj) : HR G (w.alloc ob) H Z ∧ Ext w H Z (w.alloc ob) H Z := by
 have hold : ∀ k, k < w.heap.size → (w.alloc ob).heap[k]? = w.heap[k]? := fun k hk => Below.heap_alloc w ob k hk
 have hx : Ext w H Z (w.alloc ob) H Z := {
  size := by simp
  os := rfl
  tape := rfl
  output := rfl
  imm := fun b hb => ⟨hb, hr.apart hb, hold b (hr.zlt b hb)⟩
  priv := fun b hlt hz hh => ⟨hz, hh, hold b hlt⟩
  frt := fun b f sz ty hb _ => ⟨f, hb, Nat.le_refl _⟩
  pre := fun b f sz ty hb => ⟨.inr ⟨f, Nat.le_refl _, hb⟩, fun arr fz ha => ⟨arr, fz, (hold b (hr.dom b _ hb).1).trans ha, rfl, fun _ _ => rfl⟩⟩ }
 exact ⟨⟨fun b o' e => ⟨by have := (hr.dom b o' e).1; simp; omega, (hr.dom b o' e).2⟩, fun b hb => by have := hr.zlt b hb; simp; omega, fun b o' e => (hr.obj b o' e).ext hr hx (hold b (hr.dom b o' e).1), fun g cs e => (hr.glob g cs e).ext hr hx⟩, hx⟩
theorem cCode_rng {code : Code} {x : X} {ps : List Nat} {c d : CC} (hc : cCode P N code = some (.rng x ps c d)) : ∃ y pa a b, code = .rangeFunc y pa a b ∧ x = cX y ∧ XOk N x = true ∧ ps = pa.toList ∧ cCode P N a = some c ∧ cCode P N b = some d := by
 cases code
 case rangeFunc y pa a b =>
  simp only [cCode] at hc
  split at hc
  · rename_i hx
    rw [Bool.and_eq_true] at hx
    obtain ⟨x', h1, hc⟩ := bindS hc
    obtain ⟨y', h2, hc⟩ := bindS hc
    cases hc
    exact ⟨y, pa, a, b, rfl, rfl, hx.1, rfl, h1, h2⟩
  · cases hc
 all_goals (first | (cases hc; done) | skip)
 all_goals exfalso
 all_goals simp only [cCode] at hc
 all_goals repeat' (first | (rw [Option.bind_eq_some_iff] at hc; obtain ⟨_, _, hc⟩ := hc) | split at hc)
 all_goals cases hc
def Pend (Q : EX → Fr → Hp → Prop) (fr : Fr) (H : Hp) : Option Code → Prop
 | none => Q .normal fr H
 | some (.exit id) => Q (.exit id) fr H
 | some .ret => Q .ret fr H
 | _ => False
theorem AC.rng {f : FuncId} {x : X} {ps : List Nat} {cas cbd : CC} {df dc : List DV} {Q : EX → Fr → Hp → Prop} {fr : Fr} (hx' : XV G fr x = .func (.func f) df dc)
  (h : ∀ l as bd, cCode P N as = some cas → cCode P N bd = some cbd → H l = none → CALL P G f (df ++ [.func (.yield l) [] []] ++ dc) (H.upd l (some (.loop N ps as bd fr .ready none)))
   (fun _ H' => ∃ st pend, H' l = some (.loop N ps as bd fr st pend) ∧ st ≠ .busy ∧ Pend Q fr (H'.upd l none) pend) (fun d H' => Q (.panic d) fr H')) : AC P G none N (.rng x ps cas cbd) Q fr H := by
 intro code hc n base w Z a hr hf
 obtain ⟨y, pa, as, bd, rfl, rfl, hok, rfl, h1, h2⟩ := cCode_rng hc
 have hy := cX_sound hr hf hok
 rw [hx'] at hy
 obtain ⟨r1, x1⟩ := alloc_priv hr (.deferred (some []))
 have key : ∀ fnid : FuncId, ∃ (L : Loop), L.state = .ready ∧ L.pending = none ∧ L.params = pa ∧ L.assign = as ∧ L.body = bd ∧ L.tmps = a.tmps ∧
   (Instr.enterLoop fnid a.tmps pa as bd none).run P w = .ok (w.heap.size + 1, [{ target := .collected w.heap.size, args := #[] }]) ((w.alloc (.deferred (some []))).alloc (.loop L)) := fun fnid =>
  ⟨_, rfl, rfl, rfl, rfl, rfl, rfl, run_enterLoop_outer (P := P) (w := w) fnid a.tmps pa as bd⟩
 refine wpIn_rangeFunc (F := Wd none) fun fnid _ => ?_
 obtain ⟨L, l1, l2, l3, l4, l5, l6, hent⟩ := key fnid
 have hsz : (w.alloc (.deferred (some []))).heap.size = w.heap.size + 1 := by simp
 obtain ⟨r2, x2⟩ := alloc_tracked r1 (.loop L) (.loop N pa.toList as bd fr .ready none) fun hx =>
  ⟨L, heap_alloc_new _ _, l1, l2, by rw [l3], l4, l5, by rw [l6]; exact hf.size, fun t ht => by rw [l6]; exact ((hf.vals t ht).ext hr x1).ext r1 hx⟩
 rw [hsz] at r2 x2
 have hfree : H (w.heap.size + 1) = none := hr.free (by omega)
 have hcall := h (w.heap.size + 1) as bd h1 h2 hfree
 generalize hev : a.eval y = q at hy
 cases hy with
 | func fn first cap df dc e1 e2 hd1 hd2 =>
   have hx12 := x1.trans x2
   have hres : ∃ dd, (resolve a.eval (rangeCall y (w.heap.size + 1)) 0).run P ((w.alloc (.deferred (some []))).alloc (.loop L)) = .ok dd ((w.alloc (.deferred (some []))).alloc (.loop L)) ∧ dd.target = .fn (.func f) cap ∧ dd.args = first ++ #[.func (.yield (w.heap.size + 1)) #[] #[]] := by
    refine ⟨_, by simp only [resolve, rangeCall, hev, Deferred.ofValue, Sem.run_bind, Sem.run_pure, Result.andThen_ok]; rfl, rfl, ?_⟩
    simp [Act.eval]
   obtain ⟨dd, g1, g2, g3⟩ := hres
   obtain ⟨fnn, f1, f2, f3⟩ := hcall.1
   have hvs : ∀ (j : Nat) (v : Value) (d : DV), (first ++ #[.func (.yield (w.heap.size + 1)) #[] #[]] ++ cap)[j]? = some v → (df ++ [.func (.yield (w.heap.size + 1)) [] []] ++ dc)[j]? = some d →
     VR ((w.alloc (.deferred (some []))).alloc (.loop L)) (H.upd (w.heap.size + 1) (some (.loop N pa.toList as bd fr .ready none))) Z v d := by
    intro j v d hv hd
    rw [Array.getElem?_append, Array.getElem?_append] at hv
    rw [List.getElem?_append, List.getElem?_append] at hd
    simp only [Array.size_append, List.length_append, e1, Array.size_singleton, List.length_singleton] at hv hd
    split at hv
    · rename_i c1
      rw [if_pos c1] at hd
      split at hv
      · rename_i c2; rw [if_pos c2] at hd; exact (hd1 j v d hv hd).ext hr hx12
      · rename_i c2
        rw [if_neg c2] at hd
        have : j - df.length = 0 := by omega
        rw [this] at hv hd
        simp at hv hd
        subst hv; subst hd
        exact .func _ #[] #[] [] [] rfl rfl (fun j v d h => by simp at h) (fun j v d h => by simp at h)
    · rename_i c1
      rw [if_neg c1] at hd
      exact (hd2 _ v d hv hd).ext hr hx12
   refine ⟨_, _, _, dd, _, f, first ++ #[.func (.yield (w.heap.size + 1)) #[] #[]] ++ cap, (w.alloc (.deferred (some []))).alloc (.loop L), hent, g1, fun _ _ => trivial, ?_, fun h => by simp [Wd, Fence.wide] at h, ?_⟩
   · rw [g2, g3]
     simp only [invoke]
     exact run_enter f1 f2 f3 _ _
   · refine (hcall.in (r := none) (n := n - 1) r2 (by simp [e1, e2]; omega) hvs).mono fun e w' he => ?_
     obtain ⟨ms0, hde, hmm⟩ := hf.marks
     have hmk : MarksB ((w.alloc (.deferred (some []))).alloc (.loop L)) (H.upd (w.heap.size + 1) (some (.loop N pa.toList as bd fr .ready none))) Z base ([{ target := .collected w.heap.size, args := #[] }] ++ a.defers) := by
      have hm0 := hmm.ext hx12
      refine ⟨[{ target := .collected w.heap.size, args := #[] }] ++ ms0, by rw [hde, List.append_assoc], fun d hd => ?_, ?_⟩
      · rcases List.mem_append.1 hd with hd | hd
        · simp only [List.mem_singleton] at hd
          subst hd
          refine ⟨w.heap.size, rfl, hf.low, by simp; omega, fun hz => absurd (hr.zlt _ hz) (by omega), by rw [Hp.upd_ne (by omega)]; exact hr.free (Nat.le_refl _), ?_⟩
          rw [Below.heap_alloc _ _ _ (by simp)]
          exact heap_alloc_new w _
        · exact hm0.1 d hd
      · rw [List.map_append, List.map_singleton, List.singleton_append, List.nodup_cons]
        refine ⟨fun hm => ?_, hmm.2⟩
        rw [List.mem_map] at hm
        obtain ⟨d, hd, he⟩ := hm
        obtain ⟨b, e0, _, hlt, _⟩ := hmm.1 d hd
        rw [e0] at he
        simp only at he
        omega
     have hfr2 : FR ((w.alloc (.deferred (some []))).alloc (.loop L)) (H.upd (w.heap.size + 1) (some (.loop N pa.toList as bd fr .ready none))) Z base N { a with defers := [{ target := .collected w.heap.size, args := #[] }] ++ a.defers } fr :=
      ⟨hf.size, fun t ht => (hf.vals t ht).ext hr hx12, hmk, by have := hf.low; simp; omega⟩
     cases e with
     | outgrown => exact he.elim
     | panicked ch =>
       obtain ⟨v, d, H', Z', e1, k, hvd, hr', hx⟩ := he
       exact ⟨.panic d, fr, H', Z', k, ⟨v, e1, hvd⟩, hr', hfr2.ext r2 hx, hx12.trans hx⟩
     | returned v =>
       obtain ⟨d, H', Z', ⟨st, pend, q1, q2, q3⟩, hvd, hr', hx⟩ := he
       obtain ⟨L1, s1, s2, s3, s4, s5, s6, s7, s8⟩ := hr'.obj _ _ q1
       have hend := run_endLoop (P := P) s1 (by rw [s2]; exact q2)
       obtain ⟨m1, m2⟩ := set_loop hr' (st' := .exhausted) (pend' := pend) q1 s1
       have e3 : { L1 with state := LoopState.exhausted } = { L1 with state := LoopState.exhausted, pending := pend } := by rw [← s3]
       refine ⟨L1.pending, _, hend, ?_⟩
       rw [e3, s3]
       have hsub : SubH (H'.upd (w.heap.size + 1) none) (H'.upd (w.heap.size + 1) (some (.loop N pa.toList as bd fr .exhausted pend))) := by
        intro k o hk
        have hne : k ≠ w.heap.size + 1 := fun e => by rw [e, Hp.upd_same] at hk; cases hk
        rw [Hp.upd_ne hne] at hk ⊢
        exact hk
       have hfr3 := ((hfr2.ext r2 hx).ext hr' m2)
       have hd1 := m1.drop hsub
       have hx3 : Ext w H Z _ _ _ := (hx12.trans hx).trans (m2.drop hsub)
       have hfr4 : FR _ (H'.upd (w.heap.size + 1) none) _ base N { a with defers := [{ target := .collected w.heap.size, args := #[] }] ++ a.defers } fr := (hfr2.ext r2 hx).ext hr' (m2.drop hsub)
       cases pend with
       | none => exact ⟨.normal, fr, _, _, q3, trivial, hd1, hfr4, hx3⟩
       | some c =>
         cases c with
         | exit id => exact wpIn_exit ⟨.exit id, fr, _, _, q3, rfl, hd1, hfr4, hx3⟩
         | ret => exact wpIn_ret ⟨.ret, fr, _, _, q3, trivial, hd1, hfr4, hx3⟩
         | _ => exact q3.elim
end
section
variable {P : Program} {G : Gl} {w w' : World} {H A : Hp} {Z : Zn}
def SameF (H A : Hp) : Prop := ∀ b f sz ty, H b = some (.front f sz ty) ↔ A b = some (.front f sz ty)
theorem Safe.congr (h : SameF H A) {b i : Nat} (hs : Safe H Z b i) : Safe A Z b i := by
 rcases hs with hs | ⟨f, sz, ty, h1, h2⟩
 · exact .inl hs
 · exact .inr ⟨f, sz, ty, (h b f sz ty).1 h1, h2⟩
theorem TagOK.congr (h : SameF H A) {B : Option Addr} {n c sz : Nat} {tag : Option (Nat × Nat)} (ht : TagOK w H B n c sz tag) : TagOK w A B n c sz tag :=
 fun b off e => ⟨(ht b off e).1, fun f sz' ty hf => (ht b off e).2 f sz' ty ((h b f sz' ty).2 hf)⟩
theorem VR.congr (h : SameF H A) {v : Value} {d : DV} (hv : VR w H Z v d) : VR w A Z v d := by
 induction hv with
 | junk v => exact .junk v
 | bool b => exact .bool b
 | int k n => exact .int k n
 | str s l e => exact .str s l e
 | ptr b off => exact .ptr b off
 | nilp => exact .nilp
 | cptr a cs vs h1 hc ho _ ih => exact .cptr a cs vs h1 (fun j hj => ⟨(hc j hj).1, (hc j hj).2.congr h⟩) ho ih
 | lst B n c sz cs tag vs h1 h2 hc ho _ ht ih =>
   exact .lst B n c sz cs tag vs h1 h2 (fun j hj => let ⟨a, e1, e2, c1, c2⟩ := hc j hj; ⟨a, e1, e2, c1, c2.congr h⟩) ho ih (ht.congr h)
 | nils => exact .nils
 | zc B => exact .zc B
 | win b off n cap h => exact .win b off n cap h
 | func fn first cap df dc e1 e2 _ _ ih1 ih2 => exact .func fn first cap df dc e1 e2 ih1 ih2
 | nilfn => exact .nilfn
 | iface t v d _ ih => exact .iface t v d ih
 | nilif => exact .nilif
 | agg vs cs e ho _ ih => exact .agg vs cs e ho ih
 | tup vs cs e _ ih => exact .tup vs cs e ih
 | mapr b => exact .mapr b
 | nilmap => exact .nilmap
theorem OR.congr (h : SameF H A) {b : Nat} {o : DO} (ho : OR w H Z b o) : OR w A Z b o := by
 cases o with
 | cells cs ty =>
   obtain ⟨arr, fz, h1, h2, h3, h4, h5⟩ := ho
   exact ⟨arr, fz, h1, h2, h3, h4, fun j v d e1 e2 => (h5 j v d e1 e2).congr h⟩
 | front f sz ty => exact ho
 | mapo es =>
   obtain ⟨ms, cl, h1, h2, h3⟩ := ho
   exact ⟨ms, cl, h1, h2, fun j m e e1 e2 => ⟨(h3 j m e e1 e2).1.congr h, (h3 j m e e1 e2).2.congr h⟩⟩
 | raw o => exact ho
 | loop N ps as bd fr st pend =>
   obtain ⟨L, h1, h2, h3, h4, h5, h6, h7, h8⟩ := ho
   exact ⟨L, h1, h2, h3, h4, h5, h6, h7, fun t ht => (h8 t ht).congr h⟩
def notF (o : DO) : Prop := ∀ f sz ty, o ≠ .front f sz ty
theorem sameF_upd {b : Nat} {o : DO} (hb : A b = none) (ho : notF o) : SameF (A.upd b (some o)) A := by
 intro k f sz ty
 by_cases e : k = b
 · subst e
   rw [Hp.upd_same, hb]
   exact ⟨fun h => absurd (Option.some.inj h) (ho f sz ty), fun h => by cases h⟩
 · rw [Hp.upd_ne e]
theorem SameF.symm (h : SameF H A) : SameF A H := fun b f sz ty => (h b f sz ty).symm
theorem HR.frame {b : Nat} {o : DO} (hb : A b = none) (ho : notF o) (hr : HR G w (A.upd b (some o)) Z) : HR G w A Z := by
 have hs := sameF_upd hb ho
 have hup : ∀ k o', A k = some o' → (A.upd b (some o)) k = some o' := fun k o' e => by
  have : k ≠ b := fun e' => by rw [e', hb] at e; cases e
  rw [Hp.upd_ne this]; exact e
 exact ⟨fun k o' e => hr.dom k o' (hup k o' e), hr.zlt, fun k o' e => (hr.obj k o' (hup k o' e)).congr hs, fun g cs e => (hr.glob g cs e).congr hs⟩
theorem frame_back {b : Nat} {o : DO} (hb : A b = none) (ho : notF o) (hr : HR G w (A.upd b (some o)) Z) {A' : Hp} {Z' : Zn} (hr' : HR G w' A' Z') (hx : Ext w A Z w' A' Z') :
  A' b = none ∧ HR G w' (A'.upd b (some o)) Z' ∧ Ext w (A.upd b (some o)) Z w' (A'.upd b (some o)) Z' := by
 obtain ⟨hlt, hz⟩ := hr.dom b o Hp.upd_same
 obtain ⟨hz', hb', hw⟩ := hx.priv b hlt hz hb
 have hx2 : Ext w (A.upd b (some o)) Z w' (A'.upd b (some o)) Z' := {
  size := hx.size
  os := hx.os
  tape := hx.tape
  output := hx.output
  imm := fun k hk => by
   have hne : k ≠ b := fun e => hz (e ▸ hk)
   obtain ⟨h1, h2, h3⟩ := hx.imm k hk
   exact ⟨h1, by rw [Hp.upd_ne hne]; exact h2, h3⟩
  priv := fun k hk h1 h2 => by
   have hne : k ≠ b := fun e => by rw [e, Hp.upd_same] at h2; cases h2
   rw [Hp.upd_ne hne] at h2
   obtain ⟨g1, g2, g3⟩ := hx.priv k hk h1 h2
   exact ⟨g1, by rw [Hp.upd_ne hne]; exact g2, g3⟩
  frt := fun k f sz ty hk hlt' => by
   have hk' := (sameF_upd hb' ho k f sz ty).1 hk
   obtain ⟨f0, h1, h2⟩ := hx.frt k f sz ty hk' hlt'
   exact ⟨f0, (sameF_upd hb ho k f0 sz ty).2 h1, h2⟩
  pre := fun k f sz ty hk => by
   obtain ⟨h1, h2⟩ := hx.pre k f sz ty ((sameF_upd hb ho k f sz ty).1 hk)
   refine ⟨?_, h2⟩
   rcases h1 with h1 | ⟨f', h3, h4⟩
   · exact .inl h1
   · exact .inr ⟨f', h3, (sameF_upd hb' ho k f' sz ty).2 h4⟩ }
 refine ⟨hb', ⟨fun k o' e => ?_, hr'.zlt, fun k o' e => ?_, fun g cs e => (hr'.glob g cs e).congr (sameF_upd hb' ho).symm⟩, hx2⟩
 · by_cases h : k = b
   · subst h
     exact ⟨Nat.lt_of_lt_of_le hlt hx.size, hz'⟩
   · rw [Hp.upd_ne h] at e; exact hr'.dom k o' e
 · by_cases h : k = b
   · subst h
     rw [Hp.upd_same] at e
     cases e
     exact (hr.obj k o Hp.upd_same).ext hr hx2 hw
   · rw [Hp.upd_ne h] at e
     exact (hr'.obj k o' e).congr (sameF_upd hb' ho).symm
theorem CPost.frame {b : Nat} {o : DO} (hb : A b = none) (ho : notF o) {Kr Kp : DV → Hp → Prop} (hr : HR G w (A.upd b (some o)) Z) {e : Ending} (h : CPost G Kr Kp w A Z e w') :
  CPost G (fun d H' => ∃ A', Kr d A' ∧ A' b = none ∧ H' = A'.upd b (some o)) (fun d H' => ∃ A', Kp d A' ∧ A' b = none ∧ H' = A'.upd b (some o)) w (A.upd b (some o)) Z e w' := by
 cases e with
 | returned v =>
   obtain ⟨d, H', Z', k, hv, hr', hx⟩ := h
   obtain ⟨h1, h2, h3⟩ := frame_back hb ho hr hr' hx
   exact ⟨d, _, Z', ⟨H', k, h1, rfl⟩, hv.congr (sameF_upd h1 ho).symm, h2, h3⟩
 | panicked ch =>
   obtain ⟨v, d, H', Z', e1, k, hv, hr', hx⟩ := h
   obtain ⟨h1, h2, h3⟩ := frame_back hb ho hr hr' hx
   exact ⟨v, d, _, Z', e1, ⟨H', k, h1, rfl⟩, hv.congr (sameF_upd h1 ho).symm, h2, h3⟩
 | outgrown => exact h
theorem CALL.frame {f : FuncId} {ds : List DV} {Kr Kp : DV → Hp → Prop} {b : Nat} {o : DO} (hb : A b = none) (ho : notF o) (h : CALL P G f ds A Kr Kp) :
  CALL P G f ds (A.upd b (some o)) (fun d H' => ∃ A', Kr d A' ∧ A' b = none ∧ H' = A'.upd b (some o)) (fun d H' => ∃ A', Kp d A' ∧ A' b = none ∧ H' = A'.upd b (some o)) :=
 ⟨h.1, fun w Z vs hr hs hv => (h.2 w Z vs (hr.frame hb ho) hs (fun j v d h1 h2 => (hv j v d h1 h2).congr (sameF_upd hb ho))).mono fun _ _ he => he.frame hb ho hr⟩
theorem YLD.frame {l : Nat} {ds : List DV} {Kr Kp : DV → Hp → Prop} {b : Nat} {o : DO} (hb : A b = none) (ho : notF o) (h : YLD P G l ds A Kr Kp) :
  YLD P G l ds (A.upd b (some o)) (fun d H' => ∃ A', Kr d A' ∧ A' b = none ∧ H' = A'.upd b (some o)) (fun d H' => ∃ A', Kp d A' ∧ A' b = none ∧ H' = A'.upd b (some o)) := by
 intro r n w Z vs hr hs hv
 obtain ⟨f, tmps, as, bd, k1, k2⟩ := h r n w Z vs (hr.frame hb ho) hs (fun j v d h1 h2 => (hv j v d h1 h2).congr (sameF_upd hb ho))
 exact ⟨f, tmps, as, bd, k1, k2.mono fun _ _ he => he.frame hb ho hr⟩
theorem CALV.frame {fv : DV} {ds : List DV} {Kr Kp : DV → Hp → Prop} {b : Nat} {o : DO} (hb : A b = none) (ho : notF o) (h : CALV P G fv ds A Kr Kp) :
  CALV P G fv ds (A.upd b (some o)) (fun d H' => ∃ A', Kr d A' ∧ A' b = none ∧ H' = A'.upd b (some o)) (fun d H' => ∃ A', Kp d A' ∧ A' b = none ∧ H' = A'.upd b (some o)) := by
 rcases h with ⟨f, df, dc, e, h⟩ | ⟨l, e, h⟩
 · exact .inl ⟨f, df, dc, e, h.frame hb ho⟩
 · exact .inr ⟨l, e, h.frame hb ho⟩
theorem notF_cells {cs : List DV} {ty : TypeId} : notF (.cells cs ty) := fun _ _ _ h => by cases h
theorem notF_loop {N : Nat} {ps : List Nat} {as bd : Code} {fr : Fr} {st : LoopState} {pend : Option Code} : notF (.loop N ps as bd fr st pend) := fun _ _ _ h => by cases h
theorem RG.calV {r : Option Nat} {N : Nat} {dst : Option Nat} {g : Option (Nat × Bool)} {l : List Ins} {Q : EX → Fr → Hp → Prop} {fr : Fr} {x : X} {xs : List X} {fv : DV} {ds : List DV} {Kr Kp : DV → Hp → Prop} (hg : GOk g fr) (hx : XV G fr x = fv) (hds : xs.map (XV G fr) = ds) (h : CALV P G fv ds H Kr Kp)
  (kr : ∀ d H', Kr d H' → RG P G r N l Q (fr.put dst d) H') (kp : ∀ d H', Kp d H' → Q (.panic d) fr H') : RG P G r N (⟨dst, g, .calv x xs⟩ :: l) Q fr H := by
 subst hx; subst hds
 exact RG.s hg (ST.calV (h.mono kr kp))
theorem Marks.drop {H' : Hp} (hs : SubH H' H) {base : Nat} {ds : List Deferred} (hm : Marks w H Z base ds) : Marks w H' (Gone H H' Z) base ds := by
 refine ⟨fun d hd => ?_, hm.2⟩
 obtain ⟨b, e, h0, h1, h2, h3, h4⟩ := hm.1 d hd
 refine ⟨b, e, h0, h1, fun h => h.elim h2 (fun ⟨⟨o, ho⟩, _⟩ => by rw [h3] at ho; cases ho), ?_, h4⟩
 cases e' : H' b with
 | none => rfl
 | some o => rw [hs b o e'] at h3; cases h3
theorem MarksB.drop {H' : Hp} (hs : SubH H' H) {base : BS} {ds : List Deferred} (hm : MarksB w H Z base ds) : MarksB w H' (Gone H H' Z) base ds :=
 let ⟨ms, e, m⟩ := hm; ⟨ms, e, m.drop hs⟩
theorem FR.drop {H' : Hp} (hs : SubH H' H) {base : BS} {N : Nat} {a : Act} {fr : Fr} (hf : FR w H Z base N a fr) : FR w H' (Gone H H' Z) base N a fr :=
 ⟨hf.size, fun t ht => (hf.vals t ht).drop hs, hf.marks.drop hs, hf.low⟩
theorem RG.drop {r : Option Nat} {N : Nat} {l : List Ins} {Q : EX → Fr → Hp → Prop} {fr : Fr} {H' : Hp} (hs : SubH H' H) (h : RG P G r N l Q fr H') : RG P G r N l Q fr H := by
 intro n base w Z a ops is hl hr hf
 have hx : Ext w H Z w H' (Gone H H' Z) := (Ext.refl hr).drop hs
 exact wpOpsIn_mono (fun _ _ _ hp => hp.before hx) _ _ _ (h n base w _ a ops is hl (hr.drop hs) (hf.drop hs))
theorem AC.drop {r : Option Nat} {N : Nat} {c : CC} {Q : EX → Fr → Hp → Prop} {fr : Fr} {H' : Hp} (hs : SubH H' H) (h : AC P G r N c Q fr H') : AC P G r N c Q fr H := by
 intro code hc n base w Z a hr hf
 have hx : Ext w H Z w H' (Gone H H' Z) := (Ext.refl hr).drop hs
 exact wpIn_mono (h code hc n base w _ a (hr.drop hs) (hf.drop hs)) fun _ _ _ hp => hp.before hx
def frOf : List (Nat × DV) → Fr
 | [] => fun _ => .junk
 | (t, d) :: l => fun x => bif Nat.beq x t then d else frOf l x
def Agrees (fr : Fr) : List (Nat × DV) → Prop
 | [] => True
 | (t, d) :: l => fr t = d ∧ Agrees fr l
theorem Agrees.weak {fr : Fr} : ∀ (l : List (Nat × DV)), Agrees fr l → ∀ t, frOf l t = fr t ∨ frOf l t = .junk
 | [], _, t => .inr rfl
 | (u, d) :: l, h, t => by
   simp only [frOf]
   cases e : Nat.beq t u with
   | true =>
     have := Nat.eq_of_beq_eq_true e
     subst this
     exact .inl h.1.symm
   | false => exact h.2.weak l t
theorem AC.to {r : Option Nat} {N : Nat} {c : CC} {Q : EX → Fr → Hp → Prop} {fr : Fr} (l : List (Nat × DV)) (h : Agrees fr l) (k : AC P G r N c Q (frOf l) H) : AC P G r N c Q fr H := AC.weak (h.weak l) k
theorem AC.loopI {α : Type} {r : Option Nat} {N : Nat} {c : CC} {Q : EX → Fr → Hp → Prop} (μ : α → Nat) (L : α → List (Nat × DV)) (h : α → Hp) (inv : α → Prop)
  (step : ∀ a, inv a → (∀ a', inv a' → μ a' < μ a → ∀ fr, Agrees fr (L a') → AC P G r N (.loop c) Q fr (h a')) → AC P G r N c (Sq P G r N (.loop c) Q) (frOf (L a)) (h a)) :
  ∀ (a : α), inv a → ∀ fr, Agrees fr (L a) → AC P G r N (.loop c) Q fr (h a) := by
 have key : ∀ n a, μ a = n → inv a → ∀ fr, Agrees fr (L a) → AC P G r N (.loop c) Q fr (h a) := by
  intro n
  induction n using Nat.strongRecOn with
  | _ n ih =>
    intro a hn hi fr hf
    refine AC.to (L a) hf (AC.loop (step a hi fun a' hi' hlt fr' hf' => ih (μ a') (by omega) a' rfl hi' fr' hf'))
 exact fun a => key (μ a) a rfl
theorem AC.loopH {α : Type} {r : Option Nat} {N : Nat} {c : CC} {Q : EX → Fr → Hp → Prop} (μ : α → Nat) (L : α → List (Nat × DV)) (inv : α → Hp → Prop)
  (step : ∀ a H, inv a H → (∀ a' H', inv a' H' → μ a' < μ a → ∀ fr, Agrees fr (L a') → AC P G r N (.loop c) Q fr H') → AC P G r N c (Sq P G r N (.loop c) Q) (frOf (L a)) H) :
  ∀ (a : α) (H : Hp), inv a H → ∀ fr, Agrees fr (L a) → AC P G r N (.loop c) Q fr H := by
 have key : ∀ n a H, μ a = n → inv a H → ∀ fr, Agrees fr (L a) → AC P G r N (.loop c) Q fr H := by
  intro n
  induction n using Nat.strongRecOn with
  | _ n ih =>
    intro a H hn hi fr hf
    refine AC.to (L a) hf (AC.loop (step a H hi fun a' H' hi' hlt fr' hf' => ih (μ a') (by omega) a' H' rfl hi' fr' hf'))
 exact fun a H => key (μ a) a H rfl
theorem AC.bloop {α : Type} {r : Option Nat} {N id : Nat} {c : CC} {Q : EX → Fr → Hp → Prop} (μ : α → Nat) (L : α → List (Nat × DV)) (h : α → Hp) (inv : α → Prop) (E : List (Nat × DV)) (He : Hp)
  (after : ∀ fr, Agrees fr E → Q .normal fr He)
  (step : ∀ a, inv a → (∀ a', inv a' → μ a' < μ a → ∀ fr, Agrees fr (L a') → AC P G r N (.loop c) (Bk id Q) fr (h a')) → (∀ fr, Agrees fr E → Bk id Q (.exit id) fr He) → AC P G r N c (Sq P G r N (.loop c) (Bk id Q)) (frOf (L a)) (h a))
  (a : α) (ha : inv a) {fr : Fr} (hf : Agrees fr (L a)) : AC P G r N (.block id (.loop c)) Q fr (h a) :=
 AC.block (AC.loopI μ L h inv (fun a hi ih => step a hi ih fun fr hfr => by simp only [Bk, if_true]; exact after fr hfr) a ha fr hf)
theorem AC.bloopH {α β : Type} {r : Option Nat} {N id : Nat} {c : CC} {Q : EX → Fr → Hp → Prop} (μ : α → Nat) (L : α → List (Nat × DV)) (inv : α → Hp → Prop) (E : β → List (Nat × DV)) (Ei : β → Hp → Prop)
  (after : ∀ b He fr, Ei b He → Agrees fr (E b) → Q .normal fr He)
  (step : ∀ a H, inv a H → (∀ a' H', inv a' H' → μ a' < μ a → ∀ fr, Agrees fr (L a') → AC P G r N (.loop c) (Bk id Q) fr H') → (∀ b He fr, Ei b He → Agrees fr (E b) → Bk id Q (.exit id) fr He) → AC P G r N c (Sq P G r N (.loop c) (Bk id Q)) (frOf (L a)) H)
  (a : α) (H : Hp) (ha : inv a H) {fr : Fr} (hf : Agrees fr (L a)) : AC P G r N (.block id (.loop c)) Q fr H :=
 AC.block (AC.loopH μ L inv (fun a H hi ih => step a H hi ih fun b He fr hE hfr => by simp only [Bk, if_true]; exact after b He fr hE hfr) a H ha fr hf)
theorem below_ext (hr : HR G w H Z) (hb : Below w.heap.size w w') : HR G w' H Z ∧ Ext w H Z w' H Z := by
 have hx : Ext w H Z w' H Z := {
  size := hb.size
  os := hb.os
  tape := hb.tape
  output := hb.output
  imm := fun k hk => ⟨hk, hr.apart hk, hb.block k (hr.zlt k hk)⟩
  priv := fun k hk hz hh => ⟨hz, hh, hb.block k hk⟩
  frt := fun k f sz ty hk _ => ⟨f, hk, Nat.le_refl _⟩
  pre := fun k f sz ty hk => ⟨.inr ⟨f, Nat.le_refl _, hk⟩, fun arr fz ha => ⟨arr, fz, (hb.block k (hr.dom k _ hk).1).trans ha, rfl, fun _ _ => rfl⟩⟩ }
 exact ⟨hr.of_ext hx fun k o hk => hb.block k (hr.dom k o hk).1, hx⟩
theorem PF.ofBelow {f : FuncId} {fn : Func} {ds : List DV} {d : DV} (hf : P.funcs[f]? = some fn) (hb : fn.body.isNone = false) (hn : (fn.name == "runtime.NumGoroutine") = false)
  (h : ∀ (w : World) (H : Hp) (Z : Zn) (vs : Array Value), HR G w H Z → vs.size = ds.length → (∀ (j : Nat) (v : Value) (d : DV), vs[j]? = some v → ds[j]? = some d → VR w H Z v d) →
   Calls P f vs w fun e w' => ∃ v, e = .returned v ∧ (∀ w H Z, VR w H Z v d) ∧ Below w.heap.size w w') : PF P G f ds d := by
 intro H
 refine ⟨⟨fn, hf, hb, hn⟩, fun w Z vs hr hs hv => (h w H Z vs hr hs hv).mono fun e w' he => ?_⟩
 obtain ⟨v, rfl, h1, h2⟩ := he
 obtain ⟨m1, m2⟩ := below_ext hr h2
 exact ⟨d, H, Z, ⟨rfl, rfl⟩, h1 _ _ _, m1, m2⟩
theorem below_drewN (w : World) (n : Nat) : Below w.heap.size w (w.drewN n) := ⟨rfl, rfl, rfl, Nat.le_refl _, fun _ _ => rfl⟩
theorem args1 {vs : Array Value} {d : DV} (hs : vs.size = [d].length) (hv : ∀ (j : Nat) (v : Value) (e : DV), vs[j]? = some v → [d][j]? = some e → VR w H Z v e) : ∃ v, vs = #[v] ∧ VR w H Z v d := by
 have hs' : vs.size = 1 := by simpa using hs
 refine ⟨vs[0], ?_, hv 0 _ d (Array.getElem?_eq_getElem (by omega)) rfl⟩
 apply Array.ext
 · simpa using hs'
 · intro i h1 h2
   have : i = 0 := by omega
   subst this; rfl
theorem args2 {vs : Array Value} {d d2 : DV} (hs : vs.size = [d, d2].length) (hv : ∀ (j : Nat) (v : Value) (e : DV), vs[j]? = some v → [d, d2][j]? = some e → VR w H Z v e) : ∃ v v2, vs = #[v, v2] ∧ VR w H Z v d ∧ VR w H Z v2 d2 := by
 have hs' : vs.size = 2 := by simpa using hs
 refine ⟨vs[0], vs[1], ?_, hv 0 _ d (Array.getElem?_eq_getElem (by omega)) rfl, hv 1 _ d2 (Array.getElem?_eq_getElem (by omega)) rfl⟩
 apply Array.ext
 · simpa using hs'
 · intro i h1 h2
   have : i = 0 ∨ i = 1 := by omega
   rcases this with rfl | rfl <;> rfl
theorem tup_any {ds : List DV} {vs : Array Value} (h1 : vs.size = ds.length) (h : ∀ (j : Nat) (v : Value) (d : DV), vs[j]? = some v → ds[j]? = some d → ∀ w H Z, VR w H Z v d) : ∀ w H Z, VR w H Z (.tuple vs) (.tup ds) :=
 fun w H Z => .tup vs ds h1 fun j v d e1 e2 => h j v d e1 e2 w H Z
theorem glob1 {g : Nat} {d : DV} (hr : HR G w H Z) (hg : G g = some [d]) : ∃ v, w.cell? ⟨g, 0, none⟩ = some v ∧ VR w H Z v d := by
 obtain ⟨a, vs, e, hcp⟩ := (hr.glob g [d] hg).cptr_inv
 cases e
 obtain ⟨h1, _⟩ := hcp.cell 0 (by simp)
 exact ⟨vs 0, by simpa using h1, hcp.val 0 d rfl⟩
end
section
variable {P : Program} {G : Gl} {r : Option Nat} {N : Nat} {dst : Option Nat} {l : List Ins} {Q : EX → Fr → Hp → Prop} {fr : Fr} {H : Hp} {x y : X} {g : Option (Nat × Bool)}
theorem RG.z0 {c a b : X} {d : DV} (k : RG P G r N l Q (fr.put dst d) H) (hg : GOk g fr := by first | exact trivial | exact rfl) (hc : XV G fr c = .bool true := by exact rfl) (h : XV G fr a = d := by conv => lhs; whnf) : RG P G r N (⟨dst, g, .pick c a b⟩ :: l) Q fr H := RG.pkT hg hc h k
theorem RG.z1 {c a b : X} {d : DV} (k : RG P G r N l Q (fr.put dst d) H) (hg : GOk g fr := by first | exact trivial | exact rfl) (hc : XV G fr c = .bool false := by exact rfl) (h : XV G fr b = d := by conv => lhs; whnf) : RG P G r N (⟨dst, g, .pick c a b⟩ :: l) Q fr H := RG.pkF hg hc h k
theorem RG.z2 {d : DV} (k : RG P G r N l Q (fr.put dst d) H) (hg : GOk g fr := by first | exact trivial | exact rfl) (h : XV G fr x = d := by conv => lhs; whnf) : RG P G r N (⟨dst, g, .mv x⟩ :: l) Q fr H := RG.m hg h k
theorem RG.z3 {b off sz : Nat} {agg : Bool} {cs : List DV} {ty : TypeId} {d : DV} (k : RG P G r N l Q (fr.put dst d) H) (hg : GOk g fr := by first | exact trivial | exact rfl) (hx : XV G fr x = .ptr b off := by conv => lhs; whnf)
  (hb : H b = some (.cells cs ty) := by first | assumption | exact Hp.upd_same | (rw [Hp.upd_ne (by first | assumption | omega)]; first | assumption | exact Hp.upd_same | (rw [Hp.upd_ne (by first | assumption | omega)]; first | assumption | exact Hp.upd_same))) (hd : partD agg off sz cs = some d := by conv => lhs; whnf) :
  RG P G r N (⟨dst, g, .ld agg sz x⟩ :: l) Q fr H := RG.ld hg hx hb hd k
theorem RG.z4 {sz b off : Nat} {d : DV} {cs ys : List DV} {ty : TypeId} (k : RG P G r N l Q (fr.put dst .junk) (H.upd b (some (.cells (spliceL off ys cs) ty)))) (hg : GOk g fr := by first | exact trivial | exact rfl) (hx : XV G fr x = .ptr b off := by conv => lhs; whnf)
  (hb : H b = some (.cells cs ty) := by first | assumption | exact Hp.upd_same | (rw [Hp.upd_ne (by first | assumption | omega)]; first | assumption | exact Hp.upd_same | (rw [Hp.upd_ne (by first | assumption | omega)]; first | assumption | exact Hp.upd_same)))
  (hy : XV G fr y = d := by conv => lhs; whnf) (hc : cellsD d = some ys := by exact rfl) (hl : ys.length = sz := by exact rfl) (hle : off + sz ≤ cs.length := by first | decide | (simp; done)) : RG P G r N (⟨dst, g, .st sz x y⟩ :: l) Q fr H := RG.sto hg hx hb hy hc hl hle k
theorem RG.z5 {a b : Int} (k : RG P G r N l Q (fr.put dst (.int .i64 (a + b))) H) (hg : GOk g fr := by first | exact trivial | exact rfl) (hx : XV G fr x = .int .i64 a := by conv => lhs; whnf) (hy : XV G fr y = .int .i64 b := by conv => lhs; whnf) (hr : -9223372036854775808 ≤ a + b ∧ a + b ≤ 9223372036854775807 := by omega) :
  RG P G r N (⟨dst, g, .bin .add x y⟩ :: l) Q fr H := RG.addI hg hx hy hr k
theorem RG.z6 {a b : Int} (k : RG P G r N l Q (fr.put dst (.int .i64 (a - b))) H) (hg : GOk g fr := by first | exact trivial | exact rfl) (hx : XV G fr x = .int .i64 a := by conv => lhs; whnf) (hy : XV G fr y = .int .i64 b := by conv => lhs; whnf) (hr : -9223372036854775808 ≤ a - b ∧ a - b ≤ 9223372036854775807 := by omega) :
  RG P G r N (⟨dst, g, .bin .sub x y⟩ :: l) Q fr H := RG.subI hg hx hy hr k
theorem RG.z8 {s : List UInt8} {i : Int} {lo : X} (k : RG P G r N l Q (fr.put dst (.str (s.drop i.toNat))) H) (hg : GOk g fr := by first | exact trivial | exact rfl) (hx : XV G fr x = .str s := by conv => lhs; whnf) (hl : XV G fr lo = .int .i64 i := by conv => lhs; whnf) (hr : 0 ≤ i ∧ i ≤ s.length := by first | omega | (simp; done) | (simp; omega)) :
  RG P G r N (⟨dst, g, .slcS x (some lo) none⟩ :: l) Q fr H := RG.from hg hx hl hr k
theorem RG.z9 {s : List UInt8} {i : Int} {hi : X} (k : RG P G r N l Q (fr.put dst (.str (s.take i.toNat))) H) (hg : GOk g fr := by first | exact trivial | exact rfl) (hx : XV G fr x = .str s := by conv => lhs; whnf) (hl : XV G fr hi = .int .i64 i := by conv => lhs; whnf) (hr : 0 ≤ i ∧ i ≤ s.length := by first | omega | (simp; done) | (simp; omega)) :
  RG P G r N (⟨dst, g, .slcS x none (some hi)⟩ :: l) Q fr H := RG.upto hg hx hl hr k
theorem RG.zA {op : OP} {d : DV} (k : RG P G r N l Q (fr.put dst d) H) (hg : GOk g fr := by first | exact trivial | exact rfl) (h : evP G fr H op = some d := by conv => lhs; whnf) : RG P G r N (⟨dst, g, op⟩ :: l) Q fr H := RG.p hg h k
theorem RG.zB {op : OP} {t : Nat} {b : Bool} (k : RG P G r N l Q (fr.put dst (.tup [])) H) (hg : fr t = .bool (!b) := by exact rfl) : RG P G r N (⟨dst, some (t, b), op⟩ :: l) Q fr H := RG.gn hg k
theorem RG.zC {op : OP} {t : Nat} {b : Bool} {ds : List DV} (k : RG P G r N l Q (fr.put dst (.tup [])) H) (hg : fr t = .tup ds := by exact rfl) : RG P G r N (⟨dst, some (t, b), op⟩ :: l) Q fr H := RG.gu hg k
section
variable {is : List Ins} {dep : Nat → List Nat} {eff V pend : List Nat}
theorem VD.z0 {d : DV} (i : Nat) (k : VD P G r N is dep eff Q (i :: V) (i :: pend) (fr.put dst d) H) (hx : is[i]? = some ⟨dst, none, .mv x⟩ := by exact rfl) (hok : vdOk dep eff V i = true := by exact rfl) (hs : XV G fr x = d := by conv => lhs; whnf) : VD P G r N is dep eff Q V pend fr H := VD.pm i hx hok hs k
theorem VD.z1 {b off sz : Nat} {agg : Bool} {cs : List DV} {ty : TypeId} {d : DV} (i : Nat) (k : VD P G r N is dep eff Q (i :: V) (i :: pend) (fr.put dst d) H) (hx' : is[i]? = some ⟨dst, none, .ld agg sz x⟩ := by exact rfl) (hok : vdOk dep eff V i = true := by exact rfl) (hx : XV G fr x = .ptr b off := by conv => lhs; whnf)
  (hb : H b = some (.cells cs ty) := by first | assumption | exact Hp.upd_same | (rw [Hp.upd_ne (by first | assumption | omega)]; first | assumption | exact Hp.upd_same | (rw [Hp.upd_ne (by first | assumption | omega)]; first | assumption | exact Hp.upd_same))) (hd : partD agg off sz cs = some d := by conv => lhs; whnf) : VD P G r N is dep eff Q V pend fr H := VD.pv i hx' hok (evP_ld hx hb hd) k
theorem VD.z2 {s : List UInt8} {n : Int} {lo : X} (i : Nat) (k : VD P G r N is dep eff Q (i :: V) (i :: pend) (fr.put dst (.str (s.drop n.toNat))) H) (hx' : is[i]? = some ⟨dst, none, .slcS x (some lo) none⟩ := by exact rfl) (hok : vdOk dep eff V i = true := by exact rfl) (hx : XV G fr x = .str s := by conv => lhs; whnf) (hl : XV G fr lo = .int .i64 n := by conv => lhs; whnf) (hr : 0 ≤ n ∧ n ≤ s.length := by omega) : VD P G r N is dep eff Q V pend fr H := VD.pv i hx' hok (evP_from hx hl hr) k
theorem VD.z5 {op : OP} {d : DV} (i : Nat) (k : VD P G r N is dep eff Q (i :: V) (i :: pend) (fr.put dst d) H) (hx' : is[i]? = some ⟨dst, none, op⟩ := by exact rfl) (hok : vdOk dep eff V i = true := by exact rfl) (hs : evP G fr H op = some d := by conv => lhs; whnf) : VD P G r N is dep eff Q V pend fr H := VD.pv i hx' hok hs k
end
end
def Imp (B A : Prop) : Prop := B → A
theorem Imp.of_eq {A X : Prop} (e : X = A) : Imp X A := fun k => e ▸ k
theorem Imp.st {A A' B : Prop} (f : A' → A) (h : Imp B A') : Imp B A := fun k => f (h k)
theorem go {A B : Prop} (k : B) (h : ∀ X : Prop, X = B → Imp X A := by intro X e; (repeat (first | refine Imp.st (fun k => RG.z0 k) ?_ | refine Imp.st (fun k => RG.z1 k) ?_ | refine Imp.st (fun k => RG.z2 k) ?_ | refine Imp.st (fun k => RG.z3 k) ?_ | refine Imp.st (fun k => RG.z4 k) ?_ | refine Imp.st (fun k => RG.z5 k) ?_ | refine Imp.st (fun k => RG.z6 k) ?_ | refine Imp.st (fun k => RG.z7 k) ?_ | refine Imp.st (fun k => RG.z8 k) ?_ | refine Imp.st (fun k => RG.z9 k) ?_ | refine Imp.st (fun k => RG.zA k) ?_ | refine Imp.st (fun k => RG.zB k) ?_ | refine Imp.st (fun k => RG.zC k) ?_)); exact Imp.of_eq e) : A := h B rfl k
theorem go1 {A B : Prop} (k : B) (h : ∀ X : Prop, X = B → Imp X A := by intro X e; (first | refine Imp.st (fun k => RG.z0 k) ?_ | refine Imp.st (fun k => RG.z1 k) ?_ | refine Imp.st (fun k => RG.z2 k) ?_ | refine Imp.st (fun k => RG.z3 k) ?_ | refine Imp.st (fun k => RG.z4 k) ?_ | refine Imp.st (fun k => RG.z5 k) ?_ | refine Imp.st (fun k => RG.z6 k) ?_ | refine Imp.st (fun k => RG.z7 k) ?_ | refine Imp.st (fun k => RG.z8 k) ?_ | refine Imp.st (fun k => RG.z9 k) ?_ | refine Imp.st (fun k => RG.zA k) ?_ | refine Imp.st (fun k => RG.zB k) ?_ | refine Imp.st (fun k => RG.zC k) ?_); exact Imp.of_eq e) : A := h B rfl k
def rngOf : CC → Option (CC × CC)
 | .rng _ _ a b => some (a, b)
 | .seq x y => match rngOf x with
   | some p => some p
   | none => rngOf y
 | .block _ c => rngOf c
 | .loop c => rngOf c
 | .scp c => rngOf c
 | .cond _ x y => match rngOf x with
   | some p => some p
   | none => rngOf y
 | _ => none
def rngA (c : CC) : CC := match rngOf c with
 | some p => p.1
 | none => .skip
def rngB (c : CC) : CC := match rngOf c with
 | some p => p.2
 | none => .skip
def ccSnd : CC → CC
 | .seq _ b => b
 | c => c
def ccFst : CC → CC
 | .seq a _ => a
 | c => c
def ccIn : CC → CC
 | .block _ c => c
 | .loop c => c
 | .scp c => c
 | c => c
def ccElse : CC → CC
 | .cond _ _ b => b
 | c => c
section
variable {P : Program} {G : Gl} {r : Option Nat} {N : Nat} {H : Hp}
theorem DLe.agg {cs cs' : List DV} (hl : cs.length = cs'.length) (h : ∀ (j : Nat) (d d' : DV), cs[j]? = some d → cs'[j]? = some d' → DLe d d') : DLe (.agg cs) (.agg cs') := by
 intro w H Z v hv
 cases hv with
 | agg vs cs e ho hv =>
   refine .agg _ _ (e.trans hl) ho fun j v d' h1 h2 => ?_
   have hj : j < cs.length := by rw [hl]; exact (List.getElem?_eq_some_iff.1 h2).1
   exact h j _ d' (List.getElem?_eq_getElem hj) h2 w H Z v (hv j v _ h1 (List.getElem?_eq_getElem hj))
theorem DLe.tup {cs cs' : List DV} (hl : cs.length = cs'.length) (h : ∀ (j : Nat) (d d' : DV), cs[j]? = some d → cs'[j]? = some d' → DLe d d') : DLe (.tup cs) (.tup cs') := by
 intro w H Z v hv
 cases hv with
 | tup vs cs e hv =>
   refine .tup _ _ (e.trans hl) fun j v d' h1 h2 => ?_
   have hj : j < cs.length := by rw [hl]; exact (List.getElem?_eq_some_iff.1 h2).1
   exact h j _ d' (List.getElem?_eq_getElem hj) h2 w H Z v (hv j v _ h1 (List.getElem?_eq_getElem hj))
theorem DLe.tag {cs : List DV} {n sz : Nat} {tag : Option (Nat × Nat)} : DLe (.lst cs n sz tag) (.lst cs n sz none) := by
 intro w H Z v hv
 cases hv with
 | lst A n c sz cs tag vs h1 h2 h3 ho h4 h5 => exact .lst A n c sz cs none vs h1 h2 h3 ho h4 (fun b off e => by cases e)
theorem DLe.nils {sz : Nat} : DLe .nils (.lst [] 0 sz none) := by
 intro w H Z v hv
 cases hv
 exact .lst none 0 0 sz [] none (fun _ => undef) (by simp) (Nat.le_refl _) (fun j hj => by simp at hj) (fun j hj => by simp at hj) (fun j d h => by simp at h) (fun b off e => by cases e)
inductive DLes : List DV → List DV → Prop
 | nil : DLes [] []
 | cons {a b : DV} {l m : List DV} : DLe a b → DLes l m → DLes (a :: l) (b :: m)
theorem DLes.len {l m : List DV} (h : DLes l m) : l.length = m.length := by
 induction h with
 | nil => rfl
 | cons _ _ ih => simp [ih]
theorem DLes.at {l m : List DV} (h : DLes l m) : ∀ (j : Nat) (d d' : DV), l[j]? = some d → m[j]? = some d' → DLe d d' := by
 induction h with
 | nil => intro j d d' h; simp at h
 | cons a _ ih =>
   intro j d d' h1 h2
   cases j with
   | zero => simp at h1 h2; subst h1; subst h2; exact a
   | succ j => exact ih j d d' (by simpa using h1) (by simpa using h2)
theorem DLes.agg {l m : List DV} (h : DLes l m) : DLe (.agg l) (.agg m) := DLe.agg h.len h.at
theorem DLes.tup {l m : List DV} (h : DLes l m) : DLe (.tup l) (.tup m) := DLe.tup h.len h.at
theorem FR.le {w : World} {Z : Zn} {base : BS} {a : Act} {fr fr' : Fr} (hf : FR w H Z base N a fr) (h : ∀ t, DLe (fr t) (fr' t)) : FR w H Z base N a fr' :=
 ⟨hf.size, fun t ht => h t _ _ _ _ (hf.vals t ht), hf.marks, hf.low⟩
theorem RG.le {l : List Ins} {Q : EX → Fr → Hp → Prop} {fr fr' : Fr} (h : ∀ t, DLe (fr t) (fr' t)) (k : RG P G r N l Q fr' H) : RG P G r N l Q fr H :=
 fun n base w Z a ops is hl hr hf => k n base w Z a ops is hl hr (hf.le h)
theorem RG.leSet {l : List Ins} {Q : EX → Fr → Hp → Prop} {fr : Fr} {dst : Option Nat} {d d' : DV} (h : DLe d d') (k : RG P G r N l Q (fr.put dst d') H) : RG P G r N l Q (fr.put dst d) H := by
 refine RG.le (fun t => ?_) k
 cases dst with
 | none => exact DLe.refl _
 | some u =>
   simp only [Fr.put, Fr.set]
   cases Nat.beq t u
   · exact DLe.refl _
   · exact h
theorem RG.to {is : List Ins} {Q : EX → Fr → Hp → Prop} {fr : Fr} (l : List (Nat × DV)) (h : Agrees fr l) (k : RG P G r N is Q (frOf l) H) : RG P G r N is Q fr H := RG.keep (h.weak l) k
theorem RG.sto1 {b : Nat} {g : Option (Nat × Bool)} {dst : Option Nat} {x y : X} {l : List Ins} {d old : DV} {ty : TypeId} {Q : EX → Fr → Hp → Prop} {fr : Fr} (hg : GOk g fr) (hx : XV G fr x = .ptr b 0) (hb : H b = some (.cells [old] ty))
  (hy : XV G fr y = d) (hc : cellsD d = some [d]) (k : RG P G r N l Q (fr.put dst .junk) (H.upd b (some (.cells [d] ty)))) : RG P G r N (⟨dst, g, .st 1 x y⟩ :: l) Q fr H :=
 RG.sto hg hx hb hy hc rfl (by exact Nat.le_refl _) k
theorem AC.seqI {x y : CC} {I : Fr → Hp → Prop} {Q : EX → Fr → Hp → Prop} {fr : Fr} (h : AC P G r N x (Nx I Q) fr H) (k : ∀ fr' H', I fr' H' → AC P G r N y Q fr' H') : AC P G r N (.seq x y) Q fr H :=
 AC.seq (AC.mono h fun e fr' H' hq => by
  cases e with
  | normal => exact k fr' H' hq
  | exit id => exact hq
  | ret => exact hq
  | panic d => exact hq)
theorem AC.seqA {x y : CC} {l : List (Nat × DV)} {H' : Hp} {Q : EX → Fr → Hp → Prop} {fr : Fr} (h : AC P G r N x (Nx (fun fr' H2 => H2 = H' ∧ Agrees fr' l) Q) fr H) (k : AC P G r N y Q (frOf l) H') : AC P G r N (.seq x y) Q fr H :=
 AC.seqI h fun fr' H2 ⟨e, hf⟩ => by subst e; exact AC.to l hf k
theorem ST.copyS {c : Call} {x y : Operand} {t e : TypeId} {i : TypeInfo} {b off n cap : Nat} {s : List UInt8} {cs : List DV} {ty : TypeId} {dst : Option Nat} {K : Fr → Hp → Prop} {Q : EX → Fr → Hp → Prop} {fr : Fr}
  (hcal : c.callee = .builtin .copy) (hargs : c.args = #[x, y]) (htys : c.argTypes[0]? = some t) (hu : P.underlying t = some (.slice e)) (hi : P.info? e = some i) (hi1 : i.size = 1)
  (hx' : XV G fr (cX x) = .win b off n cap) (hy' : XV G fr (cX y) = .str s) (hs : s.length ≤ n) (hb : H b = some (.cells cs ty)) (hle : off + s.length ≤ cs.length)
  (h : K (fr.put dst (.int .i64 s.length)) (H.upd b (some (.cells (spliceL off (s.map B8) cs) ty)))) : ST P G r N (.oth (.call c)) dst K Q fr H := by
 intro n0 base w Z a o hc hx hd hr hf
 have ho := cOp_oth hc
 have hxs : XOk N (cX x) = true ∧ XOk N (cX y) = true := by
  have hx2 := List.all_eq_true.1 hx
  have hop : ∀ z, z = x ∨ z = y → cX z ∈ opX (.oth (.call c)) := by
   intro z hz
   simp only [opX, List.mem_map]
   refine ⟨z, ?_, rfl⟩
   simp only [Op.operands, Call.operands, hcal, hargs]
   rcases hz with rfl | rfl <;> simp
  exact ⟨hx2 _ (hop x (.inl rfl)), hx2 _ (hop y (.inr rfl))⟩
 have hp := cX_sound hr hf hxs.1
 rw [hx'] at hp
 have hq := cX_sound hr hf hxs.2
 rw [hy'] at hq
 obtain ⟨h1, arr, h2, h3, _⟩ := src_sound (P := P) hr (sz := 1) (ys := s.map B8) (m := s.length) hq (by simp [srcD])
 obtain ⟨w', k1, k2, k3⟩ := store_cells (P := P) hr hb h3 (off := off) (by simpa using hle)
 have hev : a.eval x = .slice (some ⟨b, off, none⟩) n cap := by
  generalize a.eval x = v at hp
  cases hp; rfl
 have hmin : Nat.min s.length n = s.length := Nat.min_eq_left hs
 refine wpIn_value (v := .int .i64 s.length) (w' := w') (by rw [ho]; intro c e; cases e) ?_ ⟨_, _, Z, h, k2, by rw [hd]; exact (hf.ext hr k3).putO (.int _ _), k3⟩
 have hcopy : (Builtin.copy_ c.argTypes o.type #[a.eval x, a.eval y]).run P w = .ok (.int .i64 s.length) w' := by
  have e0 : (#[Value.slice (some ⟨b, off, none⟩) n cap, a.eval y] : Array Value)[0]? = some (Value.slice (some ⟨b, off, none⟩) n cap) := rfl
  have e1 : (#[Value.slice (some ⟨b, off, none⟩) n cap, a.eval y] : Array Value)[1]? = some (a.eval y) := rfl
  rw [hev]
  simp only [Builtin.copy_, htys, e0, e1, Sem.run_bind, run_underlying hu, Result.andThen_ok, h1, run_sizeOf hi, hi1, hmin, h2, k1, Sem.run_pure]
  rfl
 simp only [execOp, ho, resolve, hcal, hargs, List.map_toArray, List.map_cons, List.map_nil, invoke, builtin, Sem.run_bind, Sem.run_pure, Result.andThen_ok, hcopy]
end
section
variable {P : Program} {G : Gl} {r : Option Nat} {N : Nat} {w : World} {H : Hp} {Z : Zn}
theorem spare_RL {z0 : Value} {size n : Nat} (h : z0.cells.all (·.oneCell') = true ∧ z0.cells.size = size) (hp : 0 < size) : RL w H Z (Builtin.zeroCells z0.cells n) (List.replicate (n * size) .junk) := by
 have hz := zeros_RL (w := w) (H := H) (Z := Z) (n := n) h hp
 have he : Builtin.zeroCells z0.cells n = (Array.range (n * size)).map (z0.cells[· % z0.cells.size]!) := by rw [Builtin.zeroCells, h.2]
 rw [he]
 refine ⟨by simp, hz.one, fun j v d hj hd => ?_⟩
 have : d = .junk := by
  have := List.mem_of_getElem? hd
  exact (List.mem_replicate.1 this).2
 rw [this]; exact .junk _
theorem RL.cat {a b : Array Value} {cs ds : List DV} (h : RL w H Z a cs) (k : RL w H Z b ds) : RL w H Z (a ++ b) (cs ++ ds) := by
 have h1 := h.size
 refine ⟨by rw [Array.size_append, List.length_append, h.size, k.size], fun j v hj => ?_, fun j v d hj hdj => ?_⟩
 · rw [Array.getElem?_append] at hj
   split at hj
   · exact h.one _ _ hj
   · exact k.one _ _ hj
 · rw [Array.getElem?_append] at hj
   rw [List.getElem?_append, ← h1] at hdj
   split at hj
   · rename_i hc'; rw [if_pos hc'] at hdj; exact h.val _ _ _ hj hdj
   · rename_i hc'; rw [if_neg hc'] at hdj; exact k.val _ _ _ hj hdj
theorem ST.app_w0 {ty sz bytes m : Nat} {x y : X} {ys : List DV} {dst : Option Nat} {K : Fr → Hp → Prop} {Q : EX → Fr → Hp → Prop} {fr : Fr} (hx' : XV G fr x = .nils) (hy : srcD H sz (XV G fr y) = some (ys, m))
  (hm : 0 < m) (hbd : m * bytes ≤ 140737488355328)
  (h : ∀ b cap rest, H b = none → m ≤ cap → (ys ++ rest).length = cap * sz → K (fr.put dst (.win b 0 m cap)) (H.upd b (some (.cells (ys ++ rest) ty)))) : ST P G r N (.app ty sz bytes x y) dst K Q fr H := by
 intro n base w Z a o hc hx hd hr hf
 obtain ⟨c, s, u, t, t', z, i, ho, hcal, hargs, htys, hu, ht, hz, hi, rfl, rfl, hp, hb0, rfl, rfl⟩ := cOp_app hc
 obtain ⟨i', z0, hi', hz0, hz1, hz2, hz3⟩ := zeroT_sound hz
 rw [hi] at hi'; cases hi'
 simp only [opX, List.all_cons, List.all_nil, Bool.and_true, Bool.and_eq_true] at hx
 have hs := cX_sound hr hf hx.1
 rw [hx'] at hs
 obtain ⟨g1, _⟩ := src_sound (P := P) hr (cX_sound hr hf hx.2) hy
 obtain ⟨hr1, hx1⟩ := drewHR hr
 obtain ⟨_, vs, g2, g3, g4⟩ := src_sound (P := P) hr1 ((cX_sound hr hf hx.2).ext hr hx1) hy
 have hA : a.eval s = .slice none 0 0 := by
  generalize a.eval s = q at hs; cases hs; rfl
 rw [hz2] at g2
 obtain ⟨cap, hcap, hrun⟩ := run_app_grow (A := none) (n := 0) (c := 0) hu ht hi hz0 g1 (os := #[]) (by simp [Builtin.firstCells]) g2 (by omega) hb0 (by simpa using hbd) o.type
 simp only [Nat.zero_add, Array.empty_append] at hrun hcap
 have hsp := spare_RL (w := w.drew) (H := H) (Z := Z) (n := cap - m) ⟨hz3.1, hz3.2.trans hz2.symm⟩ (hz2 ▸ hp)
 have hcat := g3.cat hsp
 have hsz := hcat.size
 obtain ⟨k1, k2⟩ := alloc_cells hr1 hcat ty
 have hlen : (ys ++ List.replicate ((cap - m) * z.2) DV.junk).length = cap * z.2 := by
  rw [List.length_append, g4, List.length_replicate, ← Nat.add_mul]; congr 1; omega
 refine wpIn_value (by rw [ho]; intro c e; cases e) (app_exec ho hcal hargs htys (by rw [hA]; exact hrun)) ⟨_, _, Z, h w.heap.size cap _ (hr.free (Nat.le_refl _)) hcap hlen, k1, ?_, hx1.trans k2⟩
 rw [hd]
 exact (hf.ext hr (hx1.trans k2)).putO (.win _ _ _ _ hcap)
theorem ST.app_w {ty sz bytes n m cap b : Nat} {x y : X} {cs rest ys : List DV} {dst : Option Nat} {K : Fr → Hp → Prop} {Q : EX → Fr → Hp → Prop} {fr : Fr} (hx' : XV G fr x = .win b 0 n cap) (hb : H b = some (.cells (cs ++ rest) ty))
  (hcs : cs.length = n * sz) (hall : (cs ++ rest).length = cap * sz) (hy : srcD H sz (XV G fr y) = some (ys, m)) (hbd : (n + m) * bytes ≤ 140737488355328)
  (h : ∀ b' cap' rest', (b' = b ∨ H b' = none) → n + m ≤ cap' → (cs ++ ys ++ rest').length = cap' * sz → K (fr.put dst (.win b' 0 (n + m) cap')) ((H.upd b none).upd b' (some (.cells (cs ++ ys ++ rest') ty)))) : ST P G r N (.app ty sz bytes x y) dst K Q fr H := by
 intro n0 base w Z a o hc hx hd hr hf
 obtain ⟨c, s, u, t, t', z, i, ho, hcal, hargs, htys, hu, ht, hz, hi, rfl, rfl, hp, hb0, rfl, rfl⟩ := cOp_app hc
 obtain ⟨i', z0, hi', hz0, hz1, hz2, hz3⟩ := zeroT_sound hz
 rw [hi] at hi'; cases hi'
 simp only [opX, List.all_cons, List.all_nil, Bool.and_true, Bool.and_eq_true] at hx
 have hs := cX_sound hr hf hx.1
 rw [hx'] at hs
 have hA : a.eval s = .slice (some ⟨b, 0, none⟩) n cap ∧ n ≤ cap := by
  generalize a.eval s = q at hs; cases hs; exact ⟨rfl, by assumption⟩
 obtain ⟨hA, hnc⟩ := hA
 obtain ⟨g1, vs, g2, g3, g4⟩ := src_sound (P := P) hr (cX_sound hr hf hx.2) hy
 rw [hz2] at g2
 by_cases hroom : n + m ≤ cap
 · have hle : n * z.2 + ys.length ≤ (cs ++ rest).length := by
    rw [hall, g4, ← Nat.add_mul]; exact Nat.mul_le_mul_right _ hroom
   obtain ⟨w', h1, h2, h3⟩ := store_cells (P := P) hr hb g3 (off := n * z.2) hle
   have hsp : spliceL (n * z.2) ys (cs ++ rest) = cs ++ ys ++ rest.drop ys.length := by
    rw [spliceL, ← hcs, List.take_left, ← List.drop_drop, List.drop_left]
   rw [hsp] at h2 h3
   have hup : (H.upd b none).upd b (some (.cells (cs ++ ys ++ rest.drop ys.length) ty)) = H.upd b (some (.cells (cs ++ ys ++ rest.drop ys.length) ty)) := by
    funext q; simp only [Hp.upd]; split <;> rfl
   have hlen : (cs ++ ys ++ rest.drop ys.length).length = cap * z.2 := by
    rw [← hall]
    simp only [List.length_append, List.length_drop] at hle ⊢
    omega
   have hst : (storeCells ((⟨b, 0, none⟩ : Addr).add (n * i.size)) vs.toList).run P w = .ok () w' := by
    rw [add_off rfl, ← hz2]; simpa using h1
   refine wpIn_value (by rw [ho]; intro c e; cases e) (app_exec ho hcal hargs htys (by rw [hA]; exact run_app_room hu ht hi g1 g2 hroom hst _)) ⟨_, _, Z, h b cap _ (.inl rfl) hroom hlen, by rw [hup]; exact h2, ?_, by rw [hup]; exact h3⟩
   rw [hd, hup]
   exact (hf.ext hr h3).putO (.win _ _ _ _ hroom)
 · obtain ⟨hr1, hx1⟩ := drewHR hr
   obtain ⟨_, vs', g2', g3', g4'⟩ := src_sound (P := P) hr1 ((cX_sound hr hf hx.2).ext hr hx1) hy
   have hsrc : srcD H z.2 (.win b 0 n cap) = some (cs, n) := by
    have hle : 0 + n * z.2 ≤ (cs ++ rest).length := by rw [hall]; simpa using Nat.mul_le_mul_right z.2 hnc
    simp only [srcD, hb, if_pos hle, List.drop_zero]
    rw [← hcs, List.take_left]
   obtain ⟨_, os, f2, f3, f4⟩ := src_sound (P := P) hr1 (hs.ext hr hx1) hsrc
   rw [hz2] at g2' f2
   rw [hA] at f2
   obtain ⟨cap', hcap, hrun⟩ := run_app_grow hu ht hi hz0 g1 f2 g2' hroom hb0 hbd o.type
   have hsp := spare_RL (w := w.drew) (H := H) (Z := Z) (n := cap' - (n + m)) ⟨hz3.1, hz3.2.trans hz2.symm⟩ (hz2 ▸ hp)
   have hcat := (f3.cat g3').cat hsp
   obtain ⟨k1, k2⟩ := alloc_cells hr1 hcat ty
   have hlen : (cs ++ ys ++ List.replicate ((cap' - (n + m)) * z.2) DV.junk).length = cap' * z.2 := by
    rw [List.length_append, List.length_append, f4, g4', List.length_replicate, ← Nat.add_mul, ← Nat.add_mul]; congr 1; omega
   have hbs : b ≠ w.heap.size := by have := (hr.dom b _ hb).1; omega
   have hsub : SubH ((H.upd b none).upd w.heap.size (some (.cells (cs ++ ys ++ List.replicate ((cap' - (n + m)) * z.2) DV.junk) ty))) (H.upd w.heap.size (some (.cells (cs ++ ys ++ List.replicate ((cap' - (n + m)) * z.2) DV.junk) ty))) := by
    intro q o' e
    simp only [Hp.upd] at e ⊢
    split at e
    · rename_i hq; rw [if_pos hq]; exact e
    · rename_i hq
      rw [if_neg hq]
      split at e
      · cases e
      · exact e
   have hxx := (hx1.trans k2).drop hsub
   refine wpIn_value (by rw [ho]; intro c e; cases e) (app_exec ho hcal hargs htys (by rw [hA]; exact hrun)) ⟨_, _, _, h w.heap.size cap' _ (.inr (hr.free (Nat.le_refl _))) hcap hlen, k1.drop hsub, ?_, hxx⟩
   rw [hd]
   exact (hf.ext hr hxx).putO (.win _ _ _ _ hcap)
theorem Cv.freeze {be g n cap sz k : Nat} {cs ls rest : List DV} {ty ty' : TypeId} {d : DV} (hbe : H be = some (.cells cs ty)) (hk : cs[k]? = some (.win g 0 n cap)) (hg : H g = some (.cells (ls ++ rest) ty')) (hl : ls.length = n * sz) (hne : g ≠ be) :
  Cv H ((H.upd g none).upd be (some (.cells (cs.set k (.lst ls n sz none)) ty))) d d := by
 intro G w Z hr
 have hs1 : SubH (H.upd g none) H := by
  intro q o e
  by_cases h : q = g
  · subst h; rw [Hp.upd_same] at e; cases e
  · rw [Hp.upd_ne h] at e; exact e
 have hr1 := hr.drop hs1
 have hx1 := (Ext.refl hr).drop hs1
 generalize hZ1 : Gone H (H.upd g none) Z = Z1 at hr1 hx1
 have hZg : Z1 g := by rw [← hZ1]; exact .inr ⟨⟨_, hg⟩, Hp.upd_same⟩
 have hbe1 : (H.upd g none) be = some (.cells cs ty) := by rw [Hp.upd_ne (Ne.symm hne)]; exact hbe
 generalize hH1 : H.upd g none = H1 at hr1 hx1 hbe1 hZ1
 have hvr1 : ∀ v d, VR w H Z v d → VR w H1 Z1 v d := fun v d hv => by rw [← hZ1, ← hH1] at *; exact hv.drop (hH1 ▸ hs1)
 have hsf : SameF H1 (H1.upd be (some (.cells (cs.set k (.lst ls n sz none)) ty))) := by
  intro b f sz' ty2
  by_cases h : b = be
  · subst h; rw [Hp.upd_same, hbe1]; constructor <;> (intro h; cases h)
  · rw [Hp.upd_ne h]
 obtain ⟨garr, gfz, gw, _, gsz, gone, gval⟩ := hr.obj g _ hg
 obtain ⟨barr, bfz, bw, bf, bsz, bone, bval⟩ := hr1.obj be _ hbe1
 have hkl : k < cs.length := (List.getElem?_eq_some_iff.1 hk).1
 have hobj : OR w (H1.upd be (some (.cells (cs.set k (.lst ls n sz none)) ty))) Z1 be (.cells (cs.set k (.lst ls n sz none)) ty) := by
  refine ⟨barr, bfz, bw, bf, by rw [List.length_set]; exact bsz, bone, fun j v d hj hd => ?_⟩
  by_cases hjk : j = k
  · subst hjk
    rw [List.getElem?_set_self hkl] at hd
    cases hd
    have hw := bval j v _ hj hk
    have hle : n ≤ cap ∧ v = .slice (some ⟨g, 0, none⟩) n cap := by cases hw; exact ⟨by assumption, rfl⟩
    obtain ⟨hle, rfl⟩ := hle
    have hgl : ∀ j, j < ls.length → ∃ x, garr[j]? = some x := fun j hj => by
     have : j < garr.size := by rw [gsz, List.length_append]; omega
     exact ⟨_, Array.getElem?_eq_getElem this⟩
    refine .lst (some ⟨g, 0, none⟩) n cap sz ls none (fun j => garr.getD j undef) hl hle (fun j hj => ⟨_, rfl, rfl, ?_, .inl hZg⟩) (fun j hj => ?_) (fun j d hd => ?_) (fun b off e => by cases e)
    · obtain ⟨x, hx⟩ := hgl j hj
      rw [cell_of_row _ _ _ _ _ _ gw, Nat.zero_add, hx]
      simp [Array.getD_eq_getD_getElem?, hx]
    · obtain ⟨x, hx⟩ := hgl j hj
      have : garr.getD j undef = x := by simp [Array.getD_eq_getD_getElem?, hx]
      rw [this]; exact gone j x hx
    · have hj : j < ls.length := (List.getElem?_eq_some_iff.1 hd).1
      obtain ⟨x, hx⟩ := hgl j hj
      have : garr.getD j undef = x := by simp [Array.getD_eq_getD_getElem?, hx]
      rw [this]
      exact (hvr1 _ _ (gval j x d hx (by rw [List.getElem?_append_left hj]; exact hd))).congr hsf
  · rw [List.getElem?_set_ne (Ne.symm hjk)] at hd
    exact (bval j v d hj hd).congr hsf
 refine ⟨Z1, ⟨fun b o e => ?_, hr1.zlt, fun b o e => ?_, fun gg cs' e => (hr1.glob gg cs' e).congr hsf⟩, ?_, fun v hv => (hvr1 v d hv).congr hsf⟩
 · by_cases h : b = be
   · subst h; exact hr1.dom b _ hbe1
   · rw [Hp.upd_ne h] at e; exact hr1.dom b o e
 · by_cases h : b = be
   · subst h; rw [Hp.upd_same] at e; cases e; exact hobj
   · rw [Hp.upd_ne h] at e; exact (hr1.obj b o e).congr hsf
 · refine ⟨hx1.size, hx1.os, hx1.tape, hx1.output, fun b hb => ?_, fun b h1 h2 h3 => ?_, fun b f sz' ty2 hb hlt => ?_, fun b f sz' ty2 hb => ?_⟩
   · obtain ⟨a1, a2, a3⟩ := hx1.imm b hb
     have : b ≠ be := fun e => by rw [e, hbe1] at a2; cases a2
     exact ⟨a1, by rw [Hp.upd_ne this]; exact a2, a3⟩
   · obtain ⟨a1, a2, a3⟩ := hx1.priv b h1 h2 h3
     have : b ≠ be := fun e => by rw [e, hbe1] at a2; cases a2
     exact ⟨a1, by rw [Hp.upd_ne this]; exact a2, a3⟩
   · exact hx1.frt b f sz' ty2 ((hsf b f sz' ty2).2 hb) hlt
   · obtain ⟨a1, a2⟩ := hx1.pre b f sz' ty2 hb
     refine ⟨?_, a2⟩
     rcases a1 with a1 | ⟨f', l, a1⟩
     · exact .inl a1
     · exact .inr ⟨f', l, (hsf b f' sz' ty2).1 a1⟩
def vdTwo (n : Nat) (dep : Nat → List Nat) (eff V : List Nat) (i j : Nat) : Bool :=
 eff.contains i && eff.contains j && !V.contains i && !V.contains j && (dep i).all V.contains && (dep j).all V.contains && (List.range n).all fun k => k == i || k == j || V.contains k || !(dep k).all V.contains
theorem VD.pe2 {is : List Ins} {dep : Nat → List Nat} {eff V pend : List Nat} {Q : EX → Fr → Hp → Prop} {fr : Fr} {xi xj : Ins} {Ki Kpi Kj Kpj : DV → Hp → Prop} (i j : Nat) (hij : i ≠ j) (hxi : is[i]? = some xi) (hxj : is[j]? = some xj)
  (hok : vdTwo is.length dep eff V i j = true) (hsi : EF P G r N xi Ki Kpi fr H) (hsj : EF P G r N xj Kj Kpj fr H) (hpi : ∀ d fr' H', Kpi d H' → Q (.panic d) fr' H') (hpj : ∀ d fr' H', Kpj d H' → Q (.panic d) fr' H')
  (ki : ∀ d H', Ki d H' → (∀ k ∈ pend.filter fun k => !(dep i).contains k, ∀ y, is[k]? = some y → Stab G (fr.put xi.dst d) H' y) ∧ VD P G r N is dep eff Q (i :: V) (pend.filter fun k => !(dep i).contains k) (fr.put xi.dst d) H')
  (kj : ∀ d H', Kj d H' → (∀ k ∈ pend.filter fun k => !(dep j).contains k, ∀ y, is[k]? = some y → Stab G (fr.put xj.dst d) H' y) ∧ VD P G r N is dep eff Q (j :: V) (pend.filter fun k => !(dep j).contains k) (fr.put xj.dst d) H') : VD P G r N is dep eff Q V pend fr H := by
 unfold vdTwo at hok
 simp only [Bool.and_eq_true, Bool.not_eq_true', List.all_eq_true, Bool.or_eq_true] at hok
 obtain ⟨⟨⟨⟨⟨⟨h1, h2⟩, h3⟩, h4⟩, h5⟩, h6⟩, h7⟩ := hok
 have hsel : ∀ {α : Type} (a b : α), (if i = i then a else b) = a ∧ (if j = i then a else b) = b := fun a b => ⟨if_pos rfl, if_neg (Ne.symm hij)⟩
 refine VD.effs [i, j] (fun k => if k = i then xi else xj) (fun k => if k = i then Ki else Kj) (fun k => if k = i then Kpi else Kpj) (by simp) (fun a ha => ?_) (fun a ha haV hd => ?_) (fun a ha => ?_) (fun a ha d fr' H' hk => ?_) (fun a ha d H' hK b hb hbd y hy => ?_) (fun a ha d H' hK => ?_)
 · simp only [List.mem_cons, List.not_mem_nil, or_false] at ha
   rcases ha with rfl | rfl
   · rw [if_pos rfl]
     exact ⟨hxi, by simpa using h1, by simpa using h3, fun b hb => by have := h5 b hb; simpa using this⟩
   · rw [if_neg (Ne.symm hij)]
     exact ⟨hxj, by simpa using h2, by simpa using h4, fun b hb => by have := h6 b hb; simpa using this⟩
 · have := h7 a (by simpa using ha)
   rcases this with ((h | h) | h) | h
   · have : a = i := by simpa using h
     simp [this]
   · have : a = j := by simpa using h
     simp [this]
   · exact absurd (by simpa using h) haV
   · have e : (dep a).all V.contains = true := List.all_eq_true.2 fun k hk => by simpa using hd k hk
     rw [e] at h; cases h
 · simp only [List.mem_cons, List.not_mem_nil, or_false] at ha
   rcases ha with rfl | rfl
   · rw [if_pos rfl, if_pos rfl, if_pos rfl]; exact hsi
   · rw [if_neg (Ne.symm hij), if_neg (Ne.symm hij), if_neg (Ne.symm hij)]; exact hsj
 · simp only [List.mem_cons, List.not_mem_nil, or_false] at ha
   rcases ha with rfl | rfl
   · rw [if_pos rfl] at hk; exact hpi d fr' H' hk
   · rw [if_neg (Ne.symm hij)] at hk; exact hpj d fr' H' hk
 · simp only [List.mem_cons, List.not_mem_nil, or_false] at ha
   rcases ha with rfl | rfl
   · rw [if_pos rfl] at hK ⊢
     exact (ki d H' hK).1 b (by rw [List.mem_filter]; exact ⟨hb, by simpa using hbd⟩) y hy
   · rw [if_neg (Ne.symm hij)] at hK ⊢
     exact (kj d H' hK).1 b (by rw [List.mem_filter]; exact ⟨hb, by simpa using hbd⟩) y hy
 · simp only [List.mem_cons, List.not_mem_nil, or_false] at ha
   rcases ha with rfl | rfl
   · rw [if_pos rfl] at hK ⊢
     exact (ki d H' hK).2
   · rw [if_neg (Ne.symm hij)] at hK ⊢
     exact (kj d H' hK).2
end
section
variable {P : Program} {G : Gl}
theorem wpSIn_rec {F : Fence} {n : Nat} {ops : Array Oper} {id i : Nat} {rest : List Nat} {o : Oper} {Q : Exit → Act → List Frame → World → Prop} {a : Act} {cs cs' : List Frame} {w : World} {v : Value}
  (hr0 : F.round = none) (hl : List.range ops.size = i :: rest) (ho : ops[i]? = some o) (hw : Region.wanted o (yielded ops a.tmps) = true) (hab : ∀ f, o.about P w a.eval = some f → F.fn f)
  (he : (execOp a.eval o).run P w = .ok .recover w)
  (hv : recoverD cs = some (v, cs') ∨ (recoverD cs = none ∧ v = .nilIface ∧ cs' = cs))
  (h : wpOpsIn F n P ops (fun e a' w' => Q e a' cs' w') rest (a.put o.dst v) w) : (Code.region id ops false).wpSIn F n P Q a cs w := by
 intro b k hb hro hF hroom
 have hlen : cs'.length = cs.length := by
  rcases hv with hv | ⟨_, _, rfl⟩
  · exact recoverD_length hv
  · rfl
 have hfin : ∀ v, (b.atR a (.inRegion ops (i :: rest) :: k)).finish v = b.atR (a.put o.dst v) (.inRegion ops rest :: k) := by
  intro v; rw [Frame.finish_atR, ho]; rfl
 obtain ⟨e, a', w', hq, harr⟩ := wp_opsIn rest _ w h b k cs' (hro.trans hr0.symm) hF (hlen ▸ hroom)
 have h0 : (lone (b.atR a (.inRegion ops (i :: rest) :: k)) cs w).fenced P F := fenced_oper hF hroom ho hab
 have hg := stepGR_op (P := P) (b := b) (k := k) (cs := cs) (w := w) (rest := rest) ho hw
 rw [hro, Oper.semAt_none] at hg
 have hk : (b.atR a (.inRegion ops (i :: rest) :: k)).kind = .deferred := hb
 have htr := tryRecover_deferred hk cs
 have hst : step P (lone (b.atR a (.inRegion ops (i :: rest) :: k)) cs w) = .next (lone (b.atR (a.put o.dst v) (.inRegion ops rest :: k)) cs' w) := by
  refine step_lone_go ?_
  rw [hg, ← hfin]
  simp only [Frame.atR, hro] at htr ⊢
  rcases hv with hv | ⟨hv, rfl, rfl⟩ <;> simp [stepG.apply, he, htr, hv]
 have h1 := stepR_region (P := P) (b := b) (a := a) (k := k) (cs := cs) (w := w) (ops := ops) (id := id)
 rw [hl] at h1
 exact ⟨e, a', cs', w', hlen, hq, .of_steps (.one (fenced_calm hF hroom rfl) h1) (.of_steps (.one h0 hst) harr)⟩
def DMode (w : World) (H : Hp) (Z : Zn) : Option DV → FrameMode → Prop
 | none, u => u = .returning
 | some d, u => ∃ v, u = .panicking [{ v, recovered := false }] ∧ VR w H Z v d
def DCALL (P : Program) (G : Gl) (f : FuncId) (ds : List DV) (m : Option DV) (H : Hp) (K : Hp → Prop) : Prop :=
 (∃ fn, P.funcs[f]? = some fn ∧ fn.body.isNone = false ∧ (fn.name == "runtime.NumGoroutine") = false) ∧
 ∀ (n : Nat) (w : World) (Z : Zn) (vs : Array Value) (u : FrameMode), HR G w H Z → vs.size = ds.length → (∀ (j : Nat) (v : Value) (d : DV), vs[j]? = some v → ds[j]? = some d → VR w H Z v d) → DMode w H Z m u →
  CallsDIn Fence.wide n P f vs u w (fun e u' w' => (∃ v, e = .returned v) ∧ settle u' = .returning ∧ ∃ H' Z', K H' ∧ HR G w' H' Z' ∧ Ext w H Z w' H' Z')
theorem DCALL.mono {f : FuncId} {ds : List DV} {m : Option DV} {H : Hp} {K K' : Hp → Prop} (h : DCALL P G f ds m H K) (hk : ∀ H', K H' → K' H') : DCALL P G f ds m H K' :=
 ⟨h.1, fun n w Z vs u h1 h2 h3 h4 => (h.2 n w Z vs u h1 h2 h3 h4).mono fun e u' w' ⟨k1, k2, H', Z', k3, k4⟩ => ⟨k1, k2, H', Z', hk _ k3, k4⟩⟩
def QD (K : Hp → Prop) : EX → Fr → Hp → Prop
 | .normal, _, He | .ret, _, He => K He
 | _, _, _ => False
theorem cAll_cons {N : Nat} {ops : Array Oper} {i : Ins} {l : List Ins} (h : cAll P N ops ops.toList = some (i :: l)) :
  ∃ j rest o, List.range ops.size = j :: rest ∧ ops[j]? = some o ∧ cIns P N ops o = some i ∧ rest.map (fun i => (ops[i]?).bind (cIns P N ops)) = l.map some := RG.cons_shape (cAll_range h)
theorem start_FR {w : World} {H : Hp} {Z : Zn} {N : Nat} {nt : Nat} {vs : Array Value} {ds : List DV} (h6 : nt = N) (hl : ds.length ≤ N) (hs : vs.size = ds.length) (hv : ∀ (j : Nat) (v : Value) (d : DV), vs[j]? = some v → ds[j]? = some d → VR w H Z v d) :
  FR w H Z (w.heap.size, []) N { tmps := vs ++ Array.replicate (nt - vs.size) undef, defers := [] } (argFr ds) := by
 refine ⟨by simp; omega, fun t ht => ?_, MarksB.nil, Nat.le_refl _⟩
 unfold argFr
 cases e : ds[t]? with
 | none => exact .junk _
 | some d =>
   have hlt : t < vs.size := by rw [hs]; exact (List.getElem?_eq_some_iff.1 e).1
   have hg : (vs ++ Array.replicate (nt - vs.size) undef).getD t undef = vs[t] := by
    simp [Array.getD, hlt, Array.getElem_append]
    intro h; omega
   show VR w H Z ((vs ++ Array.replicate (nt - vs.size) undef).getD t undef) d
   rw [hg]
   exact hv t _ d (Array.getElem?_eq_getElem hlt) e
def LD (P : Program) (R : Value → World → Prop) (fn : Func) (tmps : Array Value) : List Deferred → World → Prop
 | [], w => ∃ v, (results fn tmps).run P w = .ok v w ∧ R v w
 | d :: ds, w => ∃ r w', d.target = .collected r ∧ (Instr.takeDeferred r).run P w = .ok [] w' ∧ LD P R fn tmps ds w'
theorem LD.steps {F : Fence} {n : Nat} {R : Value → World → Prop} {fn : Func} {tmps : Array Value} : ∀ (ds : List Deferred) (w : World) (fr : Frame) (cs : List Frame), fr.mode = .returning → fr.defers = ds → fr.tmps = tmps → P.funcs[fr.fn]? = some fn → F.fn fr.fn → F.room (cs.length + 1 + n) → LD P R fn tmps ds w →
  ∃ v w' fr', R v w' ∧ StepsIn (Machine.fenced P F) P (lone fr cs w) (lone fr' cs w') ∧ fr'.kind = fr.kind ∧ fr'.fn = fr.fn ∧ fr'.going P w' (.returned v)
 | [], w, fr, cs, hm, hd, ht, hf, hF, hroom, ⟨v, h1, h2⟩ => ⟨v, w, fr, h2, StepsIn.refl _, rfl, rfl, hm, hd, fn, hf, by rw [ht]; exact h1⟩
 | d :: ds, w, fr, cs, hm, hd, ht, hf, hF, hroom, ⟨r, w', h1, h2, h3⟩ => by
   have hne : fr.mode ≠ .run := by rw [hm]; simp
   have s1 := step_collected (cs := cs) hne hd h1 h2
   have i1 : (lone fr cs w).fenced P F := fenced_out hF hroom hne hd (fun g hg => by rw [h1] at hg; simp [Target.leads] at hg)
   obtain ⟨v, w2, fr', k1, k2, k3, k4, k5⟩ := LD.steps (F := F) (n := n) (R := R) ds w' { fr with defers := [] ++ ds } cs hm rfl ht hf hF hroom h3
   exact ⟨v, w2, fr', k1, .head i1 s1 k2, k3, k4, k5⟩
def PostDM (P : Program) (fn : Func) (c₀ : Frame) (cs : List Frame) (R : Value → FrameMode → World → Prop) : Exit → Act → List Frame → World → Prop
 | .normal, a, cs', w | .ret, a, cs', w => ∃ u', cs' = { c₀ with mode := u' } :: cs ∧ LD P (fun v w' => R v u' w') fn a.tmps a.defers w
 | _, _, _, _ => False
theorem callsDIn_of_marks {F : Fence} {n : Nat} {f : FuncId} {fn : Func} {c : Code} {args : Array Value} {u : FrameMode} {w : World} {R : Value → FrameMode → World → Prop}
  (hf : P.funcs[f]? = some fn) (hb : fn.body = some c) (hF : F.fn f)
  (h : ∀ (c₀ : Frame) (cs : List Frame), c₀.mode = u →
   c.wpSIn F n P (PostDM P fn c₀ cs R) { tmps := args ++ Array.replicate (fn.ntmps - args.size) undef, defers := [] } (c₀ :: cs) w) :
  CallsDIn F n P f args u w (fun e u' w' => ∃ v, e = .returned v ∧ R v u' w') := by
 refine ⟨hF, fun c₀ cs hu hroom => ?_⟩
 let b : Frame := { (default : Frame) with fn := f, kind := .deferred, roundOf := none }
 have henter : Frame.enter P f args .deferred =
   b.atR { tmps := args ++ Array.replicate (fn.ntmps - args.size) undef, defers := [] } [.code c] := by
  simp [Frame.enter, Frame.atR, hf, hb, b]
 obtain ⟨e, a', cs', w', hl, hq, harr⟩ := h c₀ cs hu b [] rfl rfl hF hroom
 rw [← henter] at harr
 cases e with
 | normal =>
   obtain ⟨u', rfl, hld⟩ := hq
   obtain ⟨v, w2, fr', k1, k2, k3, k4, k5⟩ := LD.steps (F := F) (n := n) a'.defers w' { b.atR a' [] with mode := .returning } ({ c₀ with mode := u' } :: cs) rfl rfl rfl hf hF hroom hld
   exact ⟨.returned v, u', w2, fr', ⟨v, rfl, k1⟩, StepsIn.trans harr (.head (fenced_calm (fr := b.atR a' []) hF hroom rfl) (stepR_end rfl) k2), k3, k4, k5⟩
 | ret =>
   obtain ⟨u', rfl, hld⟩ := hq
   obtain ⟨todo, hs⟩ := harr.1 rfl
   obtain ⟨v, w2, fr', k1, k2, k3, k4, k5⟩ := LD.steps (F := F) (n := n) a'.defers w' { b.atR a' todo with mode := .returning } ({ c₀ with mode := u' } :: cs) rfl rfl rfl hf hF hroom hld
   exact ⟨.returned v, u', w2, fr', ⟨v, rfl, k1⟩, StepsIn.trans hs k2, k3, k4, k5⟩
 | panic chain => exact hq.elim
 | exit id => exact hq.elim
 | goto l => exact hq.elim
 | outgrown => exact hq.elim
theorem LD.of {w0 : World} {R : Value → World → Prop} {fn : Func} {tmps : Array Value} {He : Hp} {Ze : Zn} (I : World → Prop)
  (hI : ∀ (w' : World) (b : Nat), I w' → w0.heap.size ≤ b → b < w'.heap.size → ¬ Ze b → He b = none → w'.heap[b]? = some (.deferred (some [])) → I { w' with heap := w'.heap.setIfInBounds b (.deferred none) })
  (hend : ∀ w', I w' → LD P R fn tmps [] w') : ∀ (ds : List Deferred) (w' : World), I w' → Marks w' He Ze w0.heap.size ds → LD P R fn tmps ds w'
 | [], w', hi, _ => hend w' hi
 | d :: ds, w', hi, hm => by
   obtain ⟨b, e, h0, h1, h2, h3, h4⟩ := hm.1 d (by simp)
   refine ⟨b, { w' with heap := w'.heap.setIfInBounds b (.deferred none) }, e, run_takeDeferred h4, ?_⟩
   refine LD.of I hI hend ds _ (hI w' b hi h0 h1 h2 h3 h4) ⟨fun d' hd' => ?_, (List.nodup_cons.1 hm.2).2⟩
   obtain ⟨b', e', g0, g1, g2, g3, g4⟩ := hm.1 d' (by simp [hd'])
   have hne : b ≠ b' := by
    intro heq
    have hnd := (List.nodup_cons.1 hm.2).1
    apply hnd
    rw [List.mem_map]
    exact ⟨d', hd', by simp only [e, e', heq]⟩
   exact ⟨b', e', g0, by simpa using g1, g2, g3, by simp [Array.getElem?_setIfInBounds, hne, g4]⟩
theorem DCALL.of {f : FuncId} {F : FN} {ds : List DV} {m : Option DV} {H : Hp} {K : Hp → Prop} {t0 : Nat} {c : Call} {l : List Ins} {c2 : CC} (hf : cFn P f = some F) (hl : ds.length ≤ F.N)
  (hc : F.c = .seq (.reg (⟨some t0, none, .oth (.call c)⟩ :: l)) c2) (hcal : c.callee = .builtin .recover) (hrs : F.rs = [])
  (h : RG P G none F.N l (Sq P G none F.N c2 (QD K)) ((argFr ds).put (some t0) (m.getD .nilif)) H) : DCALL P G f ds m H K := by
 obtain ⟨fn, c', h1, h2, h3, h4, h5, h6⟩ := cFn_sound hf
 rw [hc] at h4
 obtain ⟨ka, kb, rfl, k1, k2⟩ := cCode_seq h4
 obtain ⟨id, ops, rfl, k7⟩ := cCode_reg k1
 obtain ⟨j, rest, o, e1, ho, hcI, hrest⟩ := cAll_cons k7
 obtain ⟨d1, d2, d3, d4⟩ := cIns_shape hcI
 have hop := cOp_oth d1
 dsimp only at d3
 refine ⟨⟨fn, h1, by simp [h2], h3⟩, fun n w Z vs u hr hs hv hm => ?_⟩
 have hfr := start_FR h6 hl hs hv
 have hres : fn.results.toList = [] := by
  rw [hrs] at h5
  cases e : fn.results.toList with
  | nil => rfl
  | cons x xs =>
    rw [e] at h5
    cases x <;> simp only [cRes] at h5 <;> split at h5 <;> first | (cases h5; done) | skip
    · obtain ⟨_, _, h5⟩ := bindS h5; cases h5
    · obtain ⟨_, _, h5⟩ := bindS h5; obtain ⟨_, _, h5⟩ := bindS h5; obtain ⟨_, _, h5⟩ := bindS h5; cases h5
 refine (callsDIn_of_marks (R := fun v u' w' => settle u' = .returning ∧ ∃ H' Z', K H' ∧ HR G w' H' Z' ∧ Ext w H Z w' H' Z') h1 h2 trivial fun c₀ cs hu => ?_).mono (fun e u' w' ⟨v, e1, e2⟩ => ⟨⟨v, e1⟩, e2⟩)
 refine wpSIn_seq ?_
 have hwant : ∀ tm, Region.wanted o (yielded ops tm) = true := by
  intro tm
  rcases d4 with ⟨d4, _⟩ | ⟨_, _, _, _, _, _, d4⟩
  · simp [Region.wanted, d4]
  · cases d4
 have hexec : ∀ a : Act, (execOp a.eval o).run P w = .ok .recover w := by
  intro a
  simp only [execOp, hop, resolve, hcal, Sem.run_bind, Sem.run_pure, Result.andThen_ok, invoke]
  rfl
 have hrec : ∃ v cs' u', (recoverD (c₀ :: cs) = some (v, cs') ∨ (recoverD (c₀ :: cs) = none ∧ v = .nilIface ∧ cs' = c₀ :: cs)) ∧ cs' = { c₀ with mode := u' } :: cs ∧ settle u' = .returning ∧ VR w H Z v (m.getD .nilif) := by
  cases m with
  | none =>
    have hm' : u = .returning := hm
    subst hm'
    refine ⟨.nilIface, c₀ :: cs, .returning, .inr ⟨?_, rfl, rfl⟩, ?_, rfl, .nilif⟩
    · simp [recoverD, hu]
    · rw [← hu]
  | some d =>
    obtain ⟨v, hm', hvd⟩ := hm
    subst hm'
    refine ⟨v, _, .panicking [{ v, recovered := true }], .inl ?_, rfl, rfl, hvd⟩
    simp [recoverD, hu]
 obtain ⟨v, cs', u', hv1, rfl, hset, hvd⟩ := hrec
 refine wpSIn_rec rfl e1 ho (hwant _) (fun _ _ => trivial) (hexec _) hv1 ?_
 rw [d3]
 have hfr1 := hfr.putO (dst := some t0) hvd
 refine wpOpsIn_mono (fun e a' w' hp => ?_) _ _ _ (h n (w.heap.size, []) w Z _ ops rest hrest hr hfr1)
 have fin : ∀ {w' : World} {a' : Act} {fr' : Fr} {He : Hp} {Ze : Zn}, K He → HR G w' He Ze → FR w' He Ze (w.heap.size, []) F.N a' fr' → Ext w H Z w' He Ze →
   LD P (fun v w' => settle u' = .returning ∧ ∃ H' Z', K H' ∧ HR G w' H' Z' ∧ Ext w H Z w' H' Z') fn a'.tmps a'.defers w' := by
  intro w' a' fr' He Ze q k2 k3 k4
  have hmk : Marks w' He Ze w.heap.size a'.defers := by
   obtain ⟨ms, e, m⟩ := k3.marks
   rw [List.append_nil] at e
   rw [e]; exact m
  refine LD.of (w0 := w) (He := He) (Ze := Ze) (fun w'' => HR G w'' He Ze ∧ Ext w H Z w'' He Ze) ?_ ?_ a'.defers w' ⟨k2, k4⟩ hmk
  · rintro w'' b ⟨g1, g2⟩ b1 b2 b3 b4 b5
    obtain ⟨m1, m2, m4⟩ := private_set g1 g2 b1 b3 b4 (.deferred none)
    exact ⟨m1, m2⟩
  · rintro w'' ⟨g1, g2⟩
    refine ⟨.tuple #[], ?_, hset, He, Ze, q, g1, g2⟩
    have hm : (fn.results.mapM (fun | .tmp t => pure (a'.tmps.getD t undef) | .cell a t => do loadVar t (← asAddr (a'.tmps.getD a undef)) : ResultVar → Sem Value)).run P w'' = .ok #[] w'' := by
     rw [Array.mapM_eq_mapM_toList, hres]
     rfl
    unfold results
    rw [Sem.run_bind]
    exact congrArg (fun r => Result.andThen r _) hm
 have fin2 : ∀ {e : Exit} {a' : Act} {w' : World} {w1 : World} {H1 : Hp} {Z1 : Zn}, Ext w H Z w1 H1 Z1 → Post G F.N (QD K) (w.heap.size, []) w1 H1 Z1 e a' w' → PostDM P fn c₀ cs (fun v u' w' => settle u' = .returning ∧ ∃ H' Z', K H' ∧ HR G w' H' Z' ∧ Ext w H Z w' H' Z') e a' ({ c₀ with mode := u' } :: cs) w' := by
  intro e a' w' w1 H1 Z1 hx hp
  obtain ⟨ex, fr', He, Ze, q, k1, k2, k3, k4⟩ := hp
  cases e <;> cases ex <;> try exact k1.elim
  · exact ⟨u', rfl, fin q k2 k3 (hx.trans k4)⟩
  · exact q.elim
  · exact ⟨u', rfl, fin q k2 k3 (hx.trans k4)⟩
  · exact q.elim
 obtain ⟨ex, fr', He, Ze, q, r1, r2, r3, r4⟩ := hp
 cases e <;> cases ex <;> try exact r1.elim
 · exact wpSIn_of_wpIn rfl (wpIn_mono (q kb k2 n (w.heap.size, []) w' Ze a' r2 r3) fun _ _ _ hp => fin2 r4 hp)
 · exact q.elim
 · exact fin2 (.refl hr) ⟨.ret, fr', He, Ze, q, r1, r2, r3, r4⟩
 · exact q.elim
theorem bodyM {fn : Func} {N : Nat} {rs : List RV} {Kr Kp : DV → Hp → Prop} {w : World} {H : Hp} {Z : Zn} (h5 : cRes P N fn.results.toList = some rs) {e : Exit} {ex : EX} {a' : Act} {w' : World} {fr' : Fr} {He : Hp} {Ze : Zn}
  (q : Fin rs Kr Kp ex fr' He) (k1 : ER w' He Ze e ex) (k2 : HR G w' He Ze) (k3 : FR w' He Ze (w.heap.size, []) N a' fr') (k4 : Ext w H Z w' He Ze) :
  bodyPostM Fence.wide 0 P fn (CPost G Kr Kp w H Z) e a' w' := by
 have hmk : Marks w' He Ze w.heap.size a'.defers := by
  obtain ⟨ms, e, m⟩ := k3.marks
  rw [List.append_nil] at e
  rw [e]; exact m
 have fin : (∃ l d H', evRes He fr' rs = some l ∧ Cv He H' (tupD l) d ∧ Kr d H') → LeavesInM Fence.wide 0 P fn a'.tmps (CPost G Kr Kp w H Z) a'.defers .returning w' := by
  rintro ⟨l, d, H', q1, q2, q4⟩
  refine leavesM (w0 := w) (He := He) (Ze := Ze) (by simp) (fun w'' => HR G w'' He Ze ∧ Ext w H Z w'' He Ze ∧ FR w'' He Ze (w.heap.size, []) N { tmps := a'.tmps, defers := [] } fr') ?_ ?_ a'.defers w' ⟨k2, k4, k3.size, k3.vals, MarksB.nil, k3.low⟩ hmk
  · rintro w'' b ⟨g1, g2, g3⟩ b1 b2 b3 b4 b5
    obtain ⟨m1, m2, m4⟩ := private_set g1 g2 b1 b3 b4 (.deferred none)
    exact ⟨m1, m2, g3.size, fun t ht => m4 _ _ (g3.vals t ht), MarksB.nil, by simpa using g3.low⟩
  · rintro w'' ⟨g1, g2, g3⟩
    obtain ⟨v, m1, m2⟩ := results_sound (P := P) (fn := fn) g1 g3.vals h5 q1
    obtain ⟨Z', c1, c2, c3⟩ := q2 _ _ _ g1
    exact ⟨v, m1, d, H', Z', q4, c3 v m2, c1, g2.trans c2⟩
 cases e <;> cases ex <;> try exact k1.elim
 · exact fin q
 · exact q.elim
 · exact fin q
 · rename_i ch d
   obtain ⟨v, rfl, hvd⟩ := k1
   obtain ⟨H', q1, q2⟩ := q
   refine leavesM (w0 := w) (He := He) (Ze := Ze) (by simp) (fun w'' => HR G w'' He Ze ∧ Ext w H Z w'' He Ze ∧ VR w'' He Ze v d) ?_ ?_ a'.defers w' ⟨k2, k4, hvd⟩ hmk
   · rintro w'' b ⟨g1, g2, g3⟩ b1 b2 b3 b4 b5
     obtain ⟨m1, m2, m4⟩ := private_set g1 g2 b1 b3 b4 (.deferred none)
     exact ⟨m1, m2, m4 _ _ g3⟩
   · rintro w'' ⟨g1, g2, g3⟩
     exact ⟨v, d, H', _, rfl, q2, g3.drop q1, g1.drop q1, g2.drop q1⟩
theorem leavesT {lo n : Nat} {fn : Func} {tmps : Array Value} {R : Ending → World → Prop} {He : Hp} {Ze : Zn} {u : FrameMode} {tl : List Deferred} (hu : u ≠ .run) (I : World → Prop)
  (hI : ∀ (w' : World) (b : Nat), I w' → lo ≤ b → b < w'.heap.size → ¬ Ze b → He b = none → w'.heap[b]? = some (.deferred (some [])) → I { w' with heap := w'.heap.setIfInBounds b (.deferred none) })
  (hend : ∀ w', I w' → LeavesInM (Wd none) n P fn tmps R tl u w') : ∀ (ds : List Deferred) (w' : World), I w' → Marks w' He Ze lo ds → LeavesInM (Wd none) n P fn tmps R (ds ++ tl) u w'
 | [], w', hi, _ => hend w' hi
 | d :: ds, w', hi, hm => by
   obtain ⟨b, e, h0, h1, h2, h3, h4⟩ := hm.1 d (by simp)
   refine ⟨hu, .inl ⟨b, { w' with heap := w'.heap.setIfInBounds b (.deferred none) }, e, run_takeDeferred h4, ?_⟩⟩
   refine leavesT hu I hI hend ds _ (hI w' b hi h0 h1 h2 h3 h4) ⟨fun d' hd' => ?_, (List.nodup_cons.1 hm.2).2⟩
   obtain ⟨b', e', g0, g1, g2, g3, g4⟩ := hm.1 d' (by simp [hd'])
   have hne : b ≠ b' := by
    intro heq
    have hnd := (List.nodup_cons.1 hm.2).1
    apply hnd
    rw [List.mem_map]
    exact ⟨d', hd', by simp only [e, e', heq]⟩
   exact ⟨b', e', g0, by simpa using g1, g2, g3, by simp [Array.getElem?_setIfInBounds, hne, g4]⟩
def FinR (rs : List RV) (Kr : DV → Hp → Prop) (fr : Fr) (He : Hp) : Prop := ∃ l d H', evRes He fr rs = some l ∧ Cv He H' (tupD l) d ∧ Kr d H'
def FinD (P : Program) (G : Gl) (g : FuncId) (dcs : List DV) (rs : List RV) (Kr : DV → Hp → Prop) : EX → Fr → Hp → Prop
 | .normal, fr, He | .ret, fr, He => DCALL P G g dcs none He (FinR rs Kr fr)
 | .panic d, fr, He => DCALL P G g dcs (some d) He (FinR rs Kr fr)
 | .exit _, _, _ => False
def QD1 (M : Fr → Hp → Prop) (rs : List RV) (Kr Kp : DV → Hp → Prop) : EX → Fr → Hp → Prop
 | .normal, fr, He => M fr He
 | e, fr, He => Fin rs Kr Kp e fr He
theorem CALL.ofD {f g : FuncId} {F : FN} {ds : List DV} {H : Hp} {Kr Kp : DV → Hp → Prop} {ca cb cr : CC} {t : Nat} {caps : List X} {c : Call} (hf : cFn P f = some F) (hl : ds.length ≤ F.N)
  (hc : F.c = .seq ca (.seq cb (.seq (.reg [⟨some t, none, .mkfn (.func g) [] caps⟩, jn (.oth (.defer c))]) cr))) (hcal : c.callee = .value (.tmp t)) (hargs : c.args = #[]) (ht : t < F.N)
  (M : Fr → Hp → Prop) (hA : AC P G none F.N ca (Sq P G none F.N cb (QD1 M F.rs Kr Kp)) (argFr ds) H)
  (hD : ∀ fr He, M fr He → AC P G none F.N cr (FinD P G g (caps.map (XV G fr)) F.rs Kr) (fr.put (some t) (.func (.func g) [] (caps.map (XV G fr)))) He)
  (hg : ∃ fn, P.funcs[g]? = some fn ∧ fn.body.isNone = false ∧ (fn.name == "runtime.NumGoroutine") = false) : CALL P G f ds H Kr Kp := by
 obtain ⟨fn, c', h1, h2, h3, h4, h5, h6⟩ := cFn_sound hf
 rw [hc] at h4
 obtain ⟨ka, kx, rfl, k1, k2⟩ := cCode_seq h4
 obtain ⟨kb, ky, rfl, k3, k4⟩ := cCode_seq k2
 obtain ⟨kd, kr, rfl, k5, k6⟩ := cCode_seq k4
 obtain ⟨id, ops, rfl, k7⟩ := cCode_reg k5
 obtain ⟨j, rest, o, e1, ho, hcI, hrest⟩ := cAll_cons k7
 obtain ⟨j2, rest2, o2, e2, ho2, hcI2, hrest2⟩ := RG.cons_shape hrest
 have e3 : rest2 = [] := by simpa using hrest2
 subst e3
 obtain ⟨d1, d2, d3, d4⟩ := cIns_shape hcI
 obtain ⟨x1, x2, x3, x4⟩ := cIns_shape hcI2
 have hop2 := cOp_oth x1
 dsimp only at d1 d2 d3 x1 x2 x3
 have hwant : ∀ tm, Region.wanted o (yielded ops tm) = true := by
  intro tm
  rcases d4 with ⟨d4, _⟩ | ⟨_, _, _, _, _, _, d4⟩
  · simp [Region.wanted, d4]
  · cases d4
 have hwant2 : ∀ tm, Region.wanted o2 (yielded ops tm) = true := by
  intro tm
  rcases x4 with ⟨x4, _⟩ | ⟨_, _, _, _, _, _, x4⟩
  · simp [Region.wanted, x4]
  · cases x4
 refine ⟨⟨fn, h1, by simp [h2], h3⟩, fun w Z vs hr hs hv => ?_⟩
 refine (callsIn_wide (n := 0)).1 (callsIn_of_wp_marks (F := Fence.wide) h1 h2 trivial ?_ rfl)
 have hfr := start_FR h6 hl hs hv
 refine wpIn_seq (wpIn_mono (hA ka k1 0 (w.heap.size, []) w Z _ hr hfr) fun e a1 w1 hp => ?_)
 obtain ⟨ex, fr1, H1, Z1, q1, r1, r2, r3, r4⟩ := hp
 cases e <;> cases ex <;> try exact r1.elim
 case exit.exit => exact q1.elim
 case ret.ret => exact bodyM (e := .ret) (ex := .ret) h5 q1 r1 r2 r3 r4
 case panic.panic => exact bodyM (e := .panic _) (ex := .panic _) h5 q1 r1 r2 r3 r4
 refine wpIn_seq (wpIn_mono (q1 kb k3 0 (w.heap.size, []) w1 Z1 a1 r2 r3) fun e a2 w2 hp => ?_)
 obtain ⟨ex, fr2, H2, Z2, q2, s1, s2, s3, s4⟩ := hp
 have s5 := r4.trans s4
 cases e <;> cases ex <;> try exact s1.elim
 case exit.exit => exact q2.elim
 case ret.ret => exact bodyM (e := .ret) (ex := .ret) h5 q2 s1 s2 s3 s5
 case panic.panic => exact bodyM (e := .panic _) (ex := .panic _) h5 q2 s1 s2 s3 s5
 refine wpIn_seq (wpIn_region ?_)
 rw [e1, e2]
 simp only [wpOpsIn, ho, ho2, hwant, hwant2, if_true]
 obtain ⟨v, g1, g2⟩ := evP_sound (d := .func (.func g) [] (caps.map (XV G fr2))) s2 s3 d1 d2 rfl
 refine wpIn_value (r := none) (cOp_defer d1 (fun _ => by simp)) (g1 o rfl) ?_
 rw [d3]
 have s6 := s3.putO (dst := some t) g2
 have hvt := s6.vals t ht
 have hfrt : (fr2.put (some t) (DV.func (.func g) [] (caps.map (XV G fr2)))) t = .func (.func g) [] (caps.map (XV G fr2)) := by
  simp [Fr.put, Fr.set]
 rw [hfrt] at hvt
 obtain ⟨cap, hcap1, hcap2, hcap3⟩ : ∃ cap : Array Value, (a2.put (some t) v).tmps.getD t undef = .func (.func g) #[] cap ∧ cap.size = (caps.map (XV G fr2)).length ∧ (∀ (j : Nat) (v : Value) (d : DV), cap[j]? = some v → (caps.map (XV G fr2))[j]? = some d → VR w2 H2 Z2 v d) := by
  generalize (a2.put (some t) v).tmps.getD t undef = q at hvt
  cases hvt with
  | func fn first cap df dc e1 e2 _ h4 =>
    have : first = #[] := by simpa using e1
    subst this
    exact ⟨cap, rfl, e2, h4⟩
 have hdrun : (execOp (a2.put (some t) v).eval o2).run P w2 = .ok (.defer { target := .fn (.func g) cap, args := #[] }) w2 := by
  have hev : (a2.put (some t) v).eval (.tmp t) = .func (.func g) #[] cap := hcap1
  simp only [execOp, hop2, resolve, hcal, hargs, hev, Deferred.ofValue, Sem.run_bind, Sem.run_pure, Result.andThen_ok, Array.map_empty, Array.append_empty]
 refine ⟨fun _ _ => trivial, ?_⟩
 show o2.uponIn (Wd none) 0 P _ _ _ ((execOp (a2.put (some t) v).eval o2).run P w2)
 rw [hdrun, Oper.uponIn_defer, x3]
 obtain ⟨ms0, em, hm0⟩ := s6.marks
 simp only [List.append_nil] at em
 have hfr4 : FR w2 H2 Z2 (w2.heap.size, { target := .fn (.func g) cap, args := #[] } :: ms0) F.N (({ a2.put (some t) v with defers := { target := .fn (.func g) cap, args := #[] } :: (a2.put (some t) v).defers } : Act).put none undef) (fr2.put (some t) (.func (.func g) [] (caps.map (XV G fr2)))) :=
  ⟨s6.size, s6.vals, ⟨[], by rw [em]; rfl, fun d hd => (by simp at hd), by simp⟩, Nat.le_refl _⟩
 refine wpIn_mono (hD fr2 H2 q2 kr k6 0 _ w2 Z2 _ s2 hfr4) fun e a5 w5 hp => ?_
 obtain ⟨ex, fr5, H5, Z5, q5, t1, t2, t3, t4⟩ := hp
 have core : ∀ (u : FrameMode) (m : Option DV), u ≠ .run → DMode w5 H5 Z5 m u → DCALL P G g (caps.map (XV G fr2)) m H5 (FinR F.rs Kr fr5) → LeavesInM Fence.wide 0 P fn a5.tmps (CPost G Kr Kp w H Z) a5.defers u w5 := by
  intro u m hu hdm hdc
  obtain ⟨ms, e5, hm5⟩ := t3.marks
  rw [e5]
  refine leavesT (lo := w2.heap.size) (He := H5) (Ze := Z5) hu (fun w'' => HR G w'' H5 Z5 ∧ Ext w H Z w'' H5 Z5 ∧ (∀ t, t < F.N → VR w'' H5 Z5 (a5.tmps.getD t undef) (fr5 t)) ∧ DMode w'' H5 Z5 m u ∧
   (∀ (j : Nat) (v : Value) (d : DV), cap[j]? = some v → (caps.map (XV G fr2))[j]? = some d → VR w'' H5 Z5 v d) ∧
   (∀ d ∈ ms0, ∃ b, d.target = .collected b ∧ w.heap.size ≤ b ∧ b < w2.heap.size ∧ b < w''.heap.size ∧ ¬ Z5 b ∧ H5 b = none ∧ w''.heap[b]? = some (.deferred (some [])))) ?_ ?_ ms w5 ⟨t2, s5.trans t4, t3.vals, hdm, fun j v d c1 c2 => (hcap3 j v d c1 c2).ext s2 t4, fun d hd => ?_⟩ hm5
  · rintro w'' b ⟨p1, p2, p3, p4, p5, p6⟩ b1 b2 b3 b4 b5
    obtain ⟨m1, m2, m4⟩ := private_set p1 p2 (Nat.le_trans s5.size b1) b3 b4 (.deferred none)
    refine ⟨m1, m2, fun t ht => m4 _ _ (p3 t ht), ?_, fun j v d c1 c2 => m4 _ _ (p5 j v d c1 c2), fun d hd => ?_⟩
    · cases m with
      | none => exact p4
      | some d => obtain ⟨v, z1, z2⟩ := p4; exact ⟨v, z1, m4 _ _ z2⟩
    · obtain ⟨b', z1, z2, z3, z4, z5, z6, z7⟩ := p6 d hd
      have : b ≠ b' := by omega
      exact ⟨b', z1, z2, z3, by simpa using z4, z5, z6, by simp [Array.getElem?_setIfInBounds, this, z7]⟩
  · rintro w'' ⟨p1, p2, p3, p4, p5, p6⟩
    refine ⟨hu, .inr ⟨fun h => by simp [Wd, Fence.wide] at h, .func g, cap, g, cap, rfl, ?_, fun _ _ => trivial, ?_⟩⟩
    · obtain ⟨fg, f1, f2, f3⟩ := hg
      simp only [invoke, Array.empty_append]
      exact run_enter f1 f2 f3 _ _
    · refine (hdc.2 _ w'' Z5 cap u p1 hcap2 p5 p4).mono ?_
      rintro e u' w6 ⟨⟨v6, rfl⟩, hset, H6, Z6, ⟨l, d, H', q1, q2, q4⟩, g1', g2'⟩
      dsimp only
      rw [hset]
      have hmk : Marks w'' H5 Z5 w.heap.size ms0 := ⟨fun d hd => by
       obtain ⟨b', z1, z2, z3, z4, z5, z6, z7⟩ := p6 d hd
       exact ⟨b', z1, z2, z4, z5, z6, z7⟩, hm0.2⟩
      refine leavesM (w0 := w) (He := H6) (Ze := Z6) (by simp) (fun w'' => HR G w'' H6 Z6 ∧ Ext w H Z w'' H6 Z6 ∧ ∀ t, t < F.N → VR w'' H6 Z6 (a5.tmps.getD t undef) (fr5 t)) ?_ ?_ ms0 w6 ⟨g1', p2.trans g2', fun t ht => (p3 t ht).ext p1 g2'⟩ (hmk.ext g2')
      · rintro w7 b ⟨g1, g2, g3⟩ b1 b2 b3 b4 b5
        obtain ⟨m1, m2, m4⟩ := private_set g1 g2 b1 b3 b4 (.deferred none)
        exact ⟨m1, m2, fun t ht => m4 _ _ (g3 t ht)⟩
      · rintro w7 ⟨g1, g2, g3⟩
        obtain ⟨v, m1, m2⟩ := results_sound (P := P) (fn := fn) g1 g3 h5 q1
        obtain ⟨Z', c1, c2, c3⟩ := q2 _ _ _ g1
        exact ⟨v, m1, d, H', Z', q4, c3 v m2, c1, g2.trans c2⟩
  · obtain ⟨b, z1, z2, z3, z4, z5, z6⟩ := hm0.1 d hd
    obtain ⟨y1, y2, y3⟩ := t4.priv b z3 z4 z5
    exact ⟨b, z1, z2, z3, Nat.lt_of_lt_of_le z3 t4.size, y1, y2, y3.trans z6⟩
 cases e <;> cases ex <;> try exact t1.elim
 · exact core _ none (by simp) rfl q5
 · exact q5.elim
 · exact core _ none (by simp) rfl q5
 · obtain ⟨v, rfl, hvd⟩ := t1
   exact core _ (some _) (by simp) ⟨v, rfl, hvd⟩ q5
theorem ST.assertY {t xt ty : TypeId} {d : DV} {dst : Option Nat} {r : Option Nat} {N : Nat} {K : Fr → Hp → Prop} {Q : EX → Fr → Hp → Prop} {fr : Fr} {H : Hp} {fs : Array Field} (hu : P.underlying ty = some (.struct fs)) (hx' : fr t = .iface ty d)
  (h : K (fr.put dst (.tup [d, .bool true])) H) : ST P G r N (.oth (.typeAssert (.tmp t) xt ty true)) dst K Q fr H := by
 intro n base w Z a o hc hx hdst hr hf
 have ho := cOp_oth hc
 have ht := oth_slot (t := t) hx (x := [.tmp t]) rfl (by simp)
 have hv := hf.vals t ht
 rw [hx'] at hv
 obtain ⟨v, e1, e2⟩ : ∃ v, a.eval (.tmp t) = .iface ty v ∧ VR w H Z v d := by
  have hv' : VR w H Z (a.eval (.tmp t)) (.iface ty d) := hv
  generalize a.eval (.tmp t) = q at hv'
  cases hv' with
  | iface _ v _ h => exact ⟨v, rfl, h⟩
 have hvt : VR w H Z (.tuple #[v, .bool true]) (.tup [d, .bool true]) := by
  refine .tup _ _ rfl ?_
  intro j x y h1 h2
  match j with
  | 0 => simp at h1 h2; subst h1; subst h2; exact e2
  | 1 => simp at h1 h2; subst h1; subst h2; exact .bool _
  | j + 2 => simp at h2
 refine wpIn_value (v := .tuple #[v, .bool true]) (by rw [ho]; intro c e; cases e) ?_ ⟨_, H, Z, h, hr, by rw [hdst]; exact hf.putO hvt, .refl hr⟩
 simp only [execOp, ho, e1, Instr.typeAssert, Sem.run_bind, run_underlying hu, Result.andThen_ok, if_true, Sem.run_pure]
theorem ST.assertN {t xt ty : TypeId} {dst : Option Nat} {r : Option Nat} {N : Nat} {K : Fr → Hp → Prop} {Q : EX → Fr → Hp → Prop} {fr : Fr} {H : Hp} {fs : Array Field} {i : TypeInfo} {z0 : Value} {d0 : DV} (hu : P.underlying ty = some (.struct fs))
  (hi : P.info? ty = some i) (hz0 : i.zero = some z0) (hvz : ∀ w H Z, VR w H Z z0 d0) (hx' : fr t = .nilif)
  (h : K (fr.put dst (.tup [d0, .bool false])) H) : ST P G r N (.oth (.typeAssert (.tmp t) xt ty true)) dst K Q fr H := by
 intro n base w Z a o hc hx hdst hr hf
 have ho := cOp_oth hc
 have ht := oth_slot (t := t) hx (x := [.tmp t]) rfl (by simp)
 have hv := hf.vals t ht
 rw [hx'] at hv
 have e1 : a.eval (.tmp t) = .nilIface := by
  have hv' : VR w H Z (a.eval (.tmp t)) .nilif := hv
  generalize a.eval (.tmp t) = q at hv'
  cases hv' with
  | nilif => rfl
 have hvt : VR w H Z (.tuple #[z0, .bool false]) (.tup [d0, .bool false]) := by
  refine .tup _ _ rfl ?_
  intro j x y h1 h2
  match j with
  | 0 => simp at h1 h2; subst h1; subst h2; exact hvz _ _ _
  | 1 => simp at h1 h2; subst h1; subst h2; exact .bool _
  | j + 2 => simp at h2
 refine wpIn_value (v := .tuple #[z0, .bool false]) (by rw [ho]; intro c e; cases e) ?_ ⟨_, H, Z, h, hr, by rw [hdst]; exact hf.putO hvt, .refl hr⟩
 simp only [execOp, ho, e1, Instr.typeAssert, Sem.run_bind, run_underlying hu, Result.andThen_ok, if_true, Sem.run_pure, zeroValue, typeInfo, run_program, hi, hz0]
end
section
variable {P : Program} {G : Gl} {r : Option Nat} {N : Nat}
variable (P G r N) in
def EFf (i : Ins) (K : DV → Hp → Prop) (Kp : DV → Hp → Prop) (fr : Fr) (H : Hp) : Prop :=
 ∀ (fr1 : Fr) (l : List Ins) (Q : EX → Fr → Hp → Prop), (∀ t ∈ slotsI i, fr1 t = fr t) → (∀ d H', K d H' → RG P G r N l Q (fr1.put i.dst d) H') → (∀ d H', Kp d H' → Q (.panic d) fr1 H') → RG P G r N (i :: l) Q fr1 H
variable (P G r N) in
inductive VDf (l : List Ins) (dep : Nat → List Nat) (eff : List Nat) (Q : EX → Fr → Hp → Prop) : List Nat → List Nat → Fr → Hp → Prop
 | val {V pend : List Nat} {fr : Fr} {H : Hp} (i : Nat) (x : Ins) {d : DV} (hx : l[i]? = some x) (he : i ∉ eff) (hv : i ∉ V) (hd : ∀ j ∈ dep i, j ∈ V) (hs : evI G fr H x = some d)
   (k : VDf l dep eff Q (i :: V) (i :: pend) (fr.put x.dst d) H) : VDf l dep eff Q V pend fr H
 | effs {V pend : List Nat} {fr : Fr} {H : Hp} (A : List Nat) (X : Nat → Ins) (K Kp : Nat → DV → Hp → Prop) (hA : A ≠ []) (hx : ∀ i ∈ A, l[i]? = some (X i) ∧ i ∈ eff ∧ i ∉ V ∧ ∀ j ∈ dep i, j ∈ V)
   (ho : ∀ j, j < l.length → j ∉ V → (∀ k ∈ dep j, k ∈ V) → j ∈ A)
   (hs : ∀ i ∈ A, EFf P G r N (X i) (K i) (Kp i) fr H) (hp : ∀ i ∈ A, ∀ d fr' H', Kp i d H' → (∀ t, (∀ (j : Nat) (y : Ins), l[j]? = some y → y.dst ≠ some t) → fr' t = fr t) → Q (.panic d) fr' H')
   (hst : ∀ i ∈ A, ∀ d H', K i d H' → ∀ j ∈ pend, j ∉ dep i → ∀ y, l[j]? = some y → Stab G (fr.put (X i).dst d) H' y)
   (k : ∀ i ∈ A, ∀ d H', K i d H' → VDf l dep eff Q (i :: V) (pend.filter fun j => !(dep i).contains j) (fr.put (X i).dst d) H') : VDf l dep eff Q V pend fr H
 | done {V pend : List Nat} {fr : Fr} {H : Hp} (ha : ∀ j, j < l.length → j ∈ V) (hq : Q .normal fr H) : VDf l dep eff Q V pend fr H
section
variable {l : List Ins} {dep : Nat → List Nat} {eff V pend R : List Nat} {fr fr1 : Fr} {H : Hp}
theorem VDf.sound {Q : EX → Fr → Hp → Prop} (hok : okD l dep eff) (h : VDf P G r N l dep eff Q V pend fr H) : ∀ (π R : List Nat) (fr1 : Fr), Lin l.length dep R π → Beh l dep eff V pend R fr fr1 H G →
  RG P G r N (π.filterMap (l[·]?)) Q fr1 H := by
 induction h with
 | @val V pend fr H i x d hx he hv hd hs k ih =>
   intro π R fr1 hl hb
   have hself : ∀ (j : Nat) (y : Ins), l[j]? = some y → j ∈ V ∨ j = i → ∀ t ∈ slotsI y, x.dst ≠ some t := by
    intro j y hy hj t ht e
    rcases hok.2 i j x y t hx hy e ht with h | ⟨_, h⟩
    · rcases hj with hj | hj
      · exact hv (hb.vd j hj i h)
      · subst hj; exact hv (hd j h)
    · exact he h
   refine ih π R fr1 hl ⟨fun j hj => by simp [hb.sub j hj], fun j hj hr => ?_, fun j hj => ?_, fun j hj k' hk => ?_, fun j hj => ?_, fun t => ?_, fun j hj hr y hy => ?_⟩
   · rcases List.mem_cons.1 hj with rfl | hj
     · simp
     · simp [hb.pnd j hj hr]
   · rcases List.mem_cons.1 hj with rfl | hj
     · exact he
     · exact hb.pe j hj
   · rcases List.mem_cons.1 hj with rfl | hj
     · simp [hd _ hk]
     · simp [hb.vd j hj _ hk]
   · rcases List.mem_cons.1 hj with rfl | hj
     · exact (List.getElem?_eq_some_iff.1 hx).1
     · exact hb.vl j hj
   · by_cases ht : x.dst = some t
     · right; exact ⟨i, x, by simp, fun h => hv (hb.sub i h), hx, ht⟩
     · rw [Fr.put_ne ht]
       rcases hb.mask t with h | ⟨j, y, k1, k2, k3, k4⟩
       · exact .inl h
       · exact .inr ⟨j, y, by simp [k1], k2, k3, k4⟩
   · rcases List.mem_cons.1 hj with rfl | hj
     · rw [hx] at hy
       cases hy
       refine ⟨d, ?_, fun t ht => by rw [ht, Fr.put_eq]⟩
       rw [← hs]
       exact evI_congr fun t ht => Fr.put_ne (hself j x hx (.inr rfl) t ht)
     · obtain ⟨d', h1, h2⟩ := hb.st j hj hr y hy
       refine ⟨d', ?_, fun t ht => ?_⟩
       · rw [← h1]
         exact evI_congr fun t ht => Fr.put_ne (hself j y hy (.inl hj) t ht)
       · rw [← h2 t ht]
         refine Fr.put_ne fun e => ?_
         have := hok.1 i j x y t hx hy e ht
         exact hv (this ▸ hj)
 | @effs V pend fr H A X K Kp hA hxa ho hs hp hst k ih =>
   intro π
   induction π with
   | nil =>
     intro R fr1 hl hb
     obtain ⟨i, hi⟩ := List.exists_mem_of_ne_nil A hA
     obtain ⟨hx, _, hv, _⟩ := hxa i hi
     exact absurd (hb.sub i (hl i (List.getElem?_eq_some_iff.1 hx).1)) hv
   | cons j π ihπ =>
     intro R fr1 hl hb
     obtain ⟨hj, hjR, hjd, hl'⟩ := hl
     have hy : l[j]? = some l[j] := List.getElem?_eq_getElem hj
     rw [List.filterMap_cons, hy]
     by_cases hjV : j ∈ V
     · obtain ⟨d, h1, h2⟩ := hb.pending hok hjV hjR hy hjd
       exact RG.ev h1 (ihπ _ _ hl' h2)
     · have hji := ho j hj hjV (fun k hk => hb.sub k (hjd k hk))
       obtain ⟨hx, he, hv, hd⟩ := hxa j hji
       rw [hx] at hy
       have hy := Option.some.inj hy
       rw [← hy]
       refine hs j hji fr1 _ Q (hb.slot hok hx hjd) (fun d H' hK => ?_) (fun d H' hK => hp j hji d fr1 H' hK (fun t ht => (hb.mask t).elim id (fun ⟨i, x, _, _, h3, h4⟩ => absurd h4 (ht i x h3))))
       refine ih j hji d H' hK π _ _ hl' ⟨fun k hk => ?_, fun k hk hr => ?_, fun k hk => ?_, fun a ha b hb' => ?_, fun a ha => ?_, fun t => ?_, fun a ha hr y hy => ?_⟩
       · rcases List.mem_cons.1 hk with rfl | hk
         · simp
         · simp [hb.sub k hk]
       · have hkR : k ∉ R := fun h => hr (by simp [h])
         rcases List.mem_cons.1 hk with rfl | hk
         · exact absurd (by simp) hr
         · rw [List.mem_filter]
           refine ⟨hb.pnd k hk hkR, ?_⟩
           have : k ∉ dep j := fun h => hkR (hjd k h)
           simpa using this
       · exact hb.pe k (List.mem_filter.1 hk).1
       · rcases List.mem_cons.1 ha with rfl | ha
         · simp [hd b hb']
         · simp [hb.vd a ha b hb']
       · rcases List.mem_cons.1 ha with rfl | ha
         · exact hj
         · exact hb.vl a ha
       · by_cases ht : (X j).dst = some t
         · left; rw [ht, Fr.put_eq, Fr.put_eq]
         · rw [Fr.put_ne ht, Fr.put_ne ht]
           rcases hb.mask t with h | ⟨a, y, k1, k2, k3, k4⟩
           · exact .inl h
           · refine .inr ⟨a, y, by simp [k1], fun h => ?_, k3, k4⟩
             rcases List.mem_cons.1 h with rfl | h
             · exact hv k1
             · exact k2 h
       · have haR : a ∉ R := fun h => hr (by simp [h])
         rcases List.mem_cons.1 ha with rfl | ha
         · exact absurd (by simp) hr
         · exact hst j hji d H' hK a (hb.pnd a ha haR) (fun h => haR (hjd a h)) y hy
 | @done V pend fr H ha hq =>
   intro π
   induction π with
   | nil =>
     intro R fr1 hl hb
     refine RG.nil ?_
     have : fr1 = fr := by
      funext t
      rcases hb.mask t with h | ⟨i, x, h1, h2, h3, h4⟩
      · exact h
      · exact absurd (hl i (List.getElem?_eq_some_iff.1 h3).1) h2
     rw [this]; exact hq
   | cons j π ihπ =>
     intro R fr1 hl hb
     obtain ⟨hj, hjR, hjd, hl'⟩ := hl
     have hy : l[j]? = some l[j] := List.getElem?_eq_getElem hj
     rw [List.filterMap_cons, hy]
     obtain ⟨d, h1, h2⟩ := hb.pending hok (ha j hj) hjR hy hjd
     exact RG.ev h1 (ihπ _ _ hl' h2)
end
theorem AC.drawVf {l : List Ins} {aft : List (List Nat)} (eff : List Nat) {Q : EX → Fr → Hp → Prop} {fr : Fr} {H : Hp} (hok : okDb l aft eff = true) (h : VDf P G r N l (depL aft) eff Q [] [] fr H) :
  AC P G r N (.draw l aft) Q fr H :=
 AC.draw fun π hl => h.sound (okDb_sound hok) π [] fr hl ⟨fun i hi => by simp at hi, fun i hi => by simp at hi, fun i hi => by simp at hi, fun i hi => by simp at hi, fun i hi => by simp at hi, fun t => .inl rfl, fun i hi => by simp at hi⟩
section
variable {Q : EX → Fr → Hp → Prop} {fr : Fr} {H : Hp} {dst : Option Nat} {x : X}
theorem EFf.call {f : FuncId} {xs : List X} {ds : List DV} {Kr Kp : DV → Hp → Prop} (hx : xs.map (XV G fr) = ds) (h : CALL P G f ds H Kr Kp) : EFf P G r N ⟨dst, none, .call f xs⟩ Kr Kp fr H := by
 intro fr1 l Q hs k kp
 have e : xs.map (XV G fr1) = ds := by
  rw [← hx]
  exact mapXV_congr xs fun x hx => XV_congr fun t ht => hs t (by
   unfold slotsI; exact List.mem_append_left _ (List.mem_flatMap.2 ⟨x, hx, ht⟩))
 exact RG.call (g := none) trivial e h k kp
theorem VDf.pv {is : List Ins} {dep : Nat → List Nat} {eff V pend : List Nat} {op : OP} {d : DV} (i : Nat) (hx : is[i]? = some ⟨dst, none, op⟩) (hok : vdOk dep eff V i = true) (hs : evP G fr H op = some d)
  (k : VDf P G r N is dep eff Q (i :: V) (i :: pend) (fr.put dst d) H) : VDf P G r N is dep eff Q V pend fr H := by
 unfold vdOk at hok
 simp only [Bool.and_eq_true, Bool.not_eq_true', List.all_eq_true] at hok
 exact VDf.val i _ hx (by have := hok.1.1; simpa using this) (by have := hok.1.2; simpa using this) (fun j hj => by have := hok.2 j hj; simpa using this) hs k
theorem VDf.pm {is : List Ins} {dep : Nat → List Nat} {eff V pend : List Nat} {d : DV} (i : Nat) (hx : is[i]? = some ⟨dst, none, .mv x⟩) (hok : vdOk dep eff V i = true) (hs : XV G fr x = d)
  (k : VDf P G r N is dep eff Q (i :: V) (i :: pend) (fr.put dst d) H) : VDf P G r N is dep eff Q V pend fr H := VDf.pv i hx hok (by simp only [evP, hs]) k
theorem VDf.pe {is : List Ins} {dep : Nat → List Nat} {eff V pend : List Nat} {op : OP} {K Kp : DV → Hp → Prop} (i : Nat) (hx : is[i]? = some ⟨dst, none, op⟩) (hok : vdOne is.length dep eff V i = true) (hs : EFf P G r N ⟨dst, none, op⟩ K Kp fr H)
  (hp : ∀ d fr' H', Kp d H' → (∀ t, (∀ (j : Nat) (y : Ins), is[j]? = some y → y.dst ≠ some t) → fr' t = fr t) → Q (.panic d) fr' H')
  (k : ∀ d H', K d H' → (∀ j ∈ pend.filter fun j => !(dep i).contains j, ∀ y, is[j]? = some y → Stab G (fr.put dst d) H' y) ∧ VDf P G r N is dep eff Q (i :: V) (pend.filter fun j => !(dep i).contains j) (fr.put dst d) H') : VDf P G r N is dep eff Q V pend fr H := by
 unfold vdOne at hok
 simp only [Bool.and_eq_true, Bool.not_eq_true', List.all_eq_true, Bool.or_eq_true] at hok
 obtain ⟨⟨⟨h1, h2⟩, h3⟩, h4⟩ := hok
 refine VDf.effs [i] (fun _ => ⟨dst, none, op⟩) (fun _ => K) (fun _ => Kp) (by simp) (fun a ha => ?_) (fun j hj hjV hd => ?_) (fun a ha => hs) (fun a ha => hp) (fun a ha d H' hK j hj hji y hy => (k d H' hK).1 j ?_ y hy) (fun a ha d H' hK => ?_)
 · rw [List.mem_singleton.1 ha]
   exact ⟨hx, by simpa using h1, by simpa using h2, fun j hj => by have := h3 j hj; simpa using this⟩
 rotate_left 2
 · rw [List.mem_singleton.1 ha]
   exact (k d H' hK).2
 · rw [List.mem_singleton]
   rcases h4 j (by simpa using hj) with (h | h) | h
   · simpa using h
   · exact absurd (by simpa using h) hjV
   · have e : (dep j).all V.contains = true := List.all_eq_true.2 fun k hk => by simpa using hd k hk
     rw [e] at h; cases h
 · rw [List.mem_singleton.1 ha] at hji; rw [List.mem_filter]; exact ⟨hj, by simpa using hji⟩
theorem VDf.pd {is : List Ins} {dep : Nat → List Nat} {eff V pend : List Nat} (ha : (List.range is.length).all (fun j => V.contains j) = true) (hq : Q .normal fr H) : VDf P G r N is dep eff Q V pend fr H :=
 VDf.done (fun j hj => by have := List.all_eq_true.1 ha j (by simpa using hj); simpa using this) hq
end
end
section
variable {P : Program} {G : Gl} {r : Option Nat} {N : Nat}
def GR (ty : TypeId) (sz : Nat) (H : Hp) (cs : List DV) (n : Nat) (v : DV) (H' : Hp) : Prop :=
 (n = 0 ∧ cs = [] ∧ v = .nils ∧ H' = H) ∨ ∃ b, H b = none ∧ v = .lst cs n sz (some (b, 0)) ∧ H' = H.upd b (some (.front n sz ty)) ∧ 0 < n
theorem GR.nil {ty : TypeId} {sz : Nat} {H : Hp} : GR ty sz H [] 0 .nils H := .inl ⟨rfl, rfl, rfl, rfl⟩
theorem GR.look {ty : TypeId} {sz n : Nat} {H H' : Hp} {cs : List DV} {v : DV} (h : GR ty sz H cs n v H') {k : Nat} {o : DO} (hk : H k = some o) : H' k = some o := by
 rcases h with ⟨_, _, _, rfl⟩ | ⟨b, hb, _, rfl, hn⟩
 · exact hk
 · rw [Hp.upd_ne (fun e => by subst e; rw [hb] at hk; cases hk)]; exact hk
theorem GR.sub {ty : TypeId} {sz n : Nat} {H H' : Hp} {cs : List DV} {v : DV} (h : GR ty sz H cs n v H') : SubH H H' := by
 rcases h with ⟨_, _, _, rfl⟩ | ⟨b, hb, _, rfl, hn⟩
 · exact SubH.refl _
 · exact SubH.fresh hb
theorem GR.set {ty : TypeId} {sz n : Nat} {H H' : Hp} {cs : List DV} {v : DV} (h : GR ty sz H cs n v H') {k : Nat} {o o' : DO} (hk : H k = some o) : GR ty sz (H.upd k (some o')) cs n v (H'.upd k (some o')) := by
 rcases h with ⟨h0, h1, h2, rfl⟩ | ⟨b, hb, h2, rfl, hn⟩
 · exact .inl ⟨h0, h1, h2, rfl⟩
 · have hne : b ≠ k := fun e => by rw [e] at hb; rw [hb] at hk; cases hk
   exact .inr ⟨b, by rw [Hp.upd_ne hne]; exact hb, h2, Hp.upd_comm hne, hn⟩
theorem GR.le {ty : TypeId} {sz n : Nat} {H H' : Hp} {cs : List DV} {v : DV} (h : GR ty sz H cs n v H') : DLe v (.lst cs n sz none) := by
 rcases h with ⟨rfl, rfl, rfl, _⟩ | ⟨b, _, rfl, _⟩
 · exact DLe.nils
 · exact DLe.tag
theorem GR.cells {ty : TypeId} {sz n : Nat} {H H' : Hp} {cs : List DV} {v : DV} (h : GR ty sz H cs n v H') : cellsD v = some [v] := by
 rcases h with ⟨_, _, rfl, _⟩ | ⟨b, _, rfl, _⟩ <;> rfl
theorem GR.app {ty : TypeId} {sz bytes n m : Nat} {H HL : Hp} {cs ys : List DV} {v : DV} {x y : X} {dst : Option Nat} {l : List Ins} {Q : EX → Fr → Hp → Prop} {fr : Fr} {g : Option (Nat × Bool)} (hg : GOk g fr) (h : GR ty sz H cs n v HL) (hx : XV G fr x = v)
  (hy : srcD HL sz (XV G fr y) = some (ys, m)) (hlen : (n + m) * bytes ≤ 140737488355328) (h0 : m = 0 → ys = [])
  (k : ∀ v' HL', GR ty sz H (cs ++ ys) (n + m) v' HL' → RG P G r N l Q (fr.put dst v') HL') : RG P G r N (⟨dst, g, .app ty sz bytes x y⟩ :: l) Q fr HL := by
 rcases h with ⟨rfl, rfl, rfl, rfl⟩ | ⟨b, hb, rfl, rfl, hn⟩
 · by_cases hm : m = 0
   · subst hm
     refine RG.s hg (ST.app_nothing (.inl hx) hy ?_)
     rw [hx]
     exact k _ _ (.inl ⟨rfl, by rw [h0 rfl]; rfl, rfl, rfl⟩)
   · refine RG.s hg (ST.app_new (m := m) (.inl hx) hy (by omega) (by rw [Nat.zero_add] at hlen; exact hlen) fun b hb => k _ _ (.inr ⟨b, hb, ?_, ?_, by omega⟩))
     · rw [List.nil_append, Nat.zero_add]
     · rw [Nat.zero_add]
 · refine RG.s hg (ST.app_own (m := m) hx Hp.upd_same hy hlen fun b' hb' => ?_)
   have e1 : (H.upd b (some (.front n sz ty))).upd b none = H := by rw [Hp.upd_upd]; exact Hp.upd_id hb
   rw [e1]
   refine k _ _ (.inr ⟨b', ?_, rfl, rfl, by omega⟩)
   rcases hb' with rfl | hb'
   · exact hb
   · have hne : b' ≠ b := fun e => by rw [e, Hp.upd_same] at hb'; cases hb'
     rw [Hp.upd_ne hne] at hb'; exact hb'
end
section
variable {P : Program} {G : Gl} {N : Nat}
def addB : List (Nat × DO) → Hp → Hp
 | [], A => A
 | p :: B, A => (addB B A).upd p.1 (some p.2)
def freeB : List (Nat × DO) → Hp → Prop
 | [], _ => True
 | p :: B, A => (addB B A) p.1 = none ∧ notF p.2 ∧ freeB B A
def outB (B : List (Nat × DO)) (k : Nat) : Prop := ∀ p ∈ B, k ≠ p.1
theorem addB_out : ∀ {B : List (Nat × DO)} {A : Hp} {k : Nat}, outB B k → addB B A k = A k
 | [], _, _, _ => rfl
 | p :: B, A, k, h => by
   rw [addB, Hp.upd_ne (h p (by simp))]
   exact addB_out fun q hq => h q (by simp [hq])
theorem addB_upd : ∀ {B : List (Nat × DO)} {A : Hp} {k : Nat} {o : Option DO}, outB B k → (addB B A).upd k o = addB B (A.upd k o)
 | [], _, _, _, _ => rfl
 | p :: B, A, k, o, h => by
   rw [addB, addB, Hp.upd_comm (Ne.symm (h p (by simp))), addB_upd fun q hq => h q (by simp [hq])]
theorem none_out : ∀ {B : List (Nat × DO)} {A : Hp} {k : Nat}, addB B A k = none → outB B k ∧ A k = none
 | [], _, _, h => ⟨fun p hp => by simp at hp, h⟩
 | p :: B, A, k, h => by
   have hne : k ≠ p.1 := fun e => by rw [addB, e, Hp.upd_same] at h; cases h
   rw [addB, Hp.upd_ne hne] at h
   obtain ⟨h1, h2⟩ := none_out h
   exact ⟨fun q hq => by rcases List.mem_cons.1 hq with rfl | hq; exact hne; exact h1 q hq, h2⟩
theorem freeB_upd : ∀ {B : List (Nat × DO)} {A : Hp} {k : Nat} {o : Option DO}, freeB B A → outB B k → freeB B (A.upd k o)
 | [], _, _, _, _, _ => trivial
 | p :: B, A, k, o, ⟨h1, h2, h3⟩, h => by
   have ho : outB B k := fun q hq => h q (by simp [hq])
   refine ⟨?_, h2, freeB_upd h3 ho⟩
   rw [← addB_upd ho, Hp.upd_ne (Ne.symm (h p (by simp)))]
   exact h1
theorem freeB_sub : ∀ {B : List (Nat × DO)} {A : Hp}, freeB B A → SubH A (addB B A)
 | [], _, _ => SubH.refl _
 | p :: B, A, ⟨h1, _, h3⟩ => (freeB_sub h3).trans (SubH.fresh h1)
theorem CALV.frameB {fv : DV} {ds : List DV} {Kr Kp : DV → Hp → Prop} : ∀ {B : List (Nat × DO)} {A : Hp}, freeB B A → CALV P G fv ds A Kr Kp →
  CALV P G fv ds (addB B A) (fun d H' => ∃ A', Kr d A' ∧ freeB B A' ∧ H' = addB B A') (fun d H' => ∃ A', Kp d A' ∧ freeB B A' ∧ H' = addB B A')
 | [], A, _, h => h.mono (fun d H' k => ⟨H', k, trivial, rfl⟩) (fun d H' k => ⟨H', k, trivial, rfl⟩)
 | p :: B, A, ⟨h1, h2, h3⟩, h => by
   have ih := CALV.frameB (B := B) h3 h
   refine (ih.frame h1 h2).mono ?_ ?_
   · rintro d H' ⟨A2, ⟨A', k, k2, rfl⟩, k3, rfl⟩
     exact ⟨A', k, ⟨k3, h2, k2⟩, rfl⟩
   · rintro d H' ⟨A2, ⟨A', k, k2, rfl⟩, k3, rfl⟩
     exact ⟨A', k, ⟨k3, h2, k2⟩, rfl⟩
theorem CALL.frameB {f : FuncId} {ds : List DV} {Kr Kp : DV → Hp → Prop} : ∀ {B : List (Nat × DO)} {A : Hp}, freeB B A → CALL P G f ds A Kr Kp →
  CALL P G f ds (addB B A) (fun d H' => ∃ A', Kr d A' ∧ freeB B A' ∧ H' = addB B A') (fun d H' => ∃ A', Kp d A' ∧ freeB B A' ∧ H' = addB B A')
 | [], A, _, h => h.mono (fun d H' k => ⟨H', k, trivial, rfl⟩) (fun d H' k => ⟨H', k, trivial, rfl⟩)
 | p :: B, A, ⟨h1, h2, h3⟩, h => by
   have ih := CALL.frameB (B := B) h3 h
   refine (ih.frame h1 h2).mono ?_ ?_
   · rintro d H' ⟨A2, ⟨A', k, k2, rfl⟩, k3, rfl⟩
     exact ⟨A', k, ⟨k3, h2, k2⟩, rfl⟩
   · rintro d H' ⟨A2, ⟨A', k, k2, rfl⟩, k3, rfl⟩
     exact ⟨A', k, ⟨k3, h2, k2⟩, rfl⟩
def runG {σ α : Type} (step : σ → α → σ × Bool) : σ → List α → σ × Bool
 | s, [] => (s, true)
 | s, a :: l => bif (step s a).2 then runG step (step s a).1 l else ((step s a).1, false)
def okR {σ α : Type} (R : σ → α → Prop) (step : σ → α → σ × Bool) : σ → List α → Prop
 | _, [] => True
 | s, a :: l => R s a ∧ ((step s a).2 = true → okR R step (step s a).1 l)
theorem okR_true {σ α : Type} (step : σ → α → σ × Bool) : ∀ (l : List α) (s : σ), okR (fun _ _ => True) step s l
 | [], _ => trivial
 | _ :: l, _ => ⟨trivial, fun _ => okR_true step l _⟩
variable (P G) in
def YJ {σ α : Type} (enc : α → List DV) (R : σ → α → Prop) (yv : DV) (step : σ → α → σ × Bool) (J E : σ → Hp → Prop) : Prop :=
 ∀ (s : σ) (a : α) (A : Hp), R s a → J s A → CALV P G yv (enc a) A (fun r A' => r = .bool (step s a).2 ∧ ((step s a).2 = true → J (step s a).1 A') ∧ ((step s a).2 = false → E (step s a).1 A')) (fun _ _ => False)
variable (P G) in
def ITER {α : Type} (f : FuncId) (df dc : List DV) (enc : α → List DV) (l : List α) (B : List (Nat × DO)) : Prop :=
 ∀ (σ : Type) (yv : DV) (step : σ → α → σ × Bool) (R : σ → α → Prop) (J E : σ → Hp → Prop) (s : σ) (A : Hp), YJ P G enc R yv step J E → cellsD yv = some [yv] → okR R step s l → J s A → freeB B A →
  CALL P G f (df ++ [yv] ++ dc) (addB B A) (fun _ H' => ∃ A', ((runG step s l).2 = true → J (runG step s l).1 A') ∧ ((runG step s l).2 = false → E (runG step s l).1 A') ∧ freeB B A' ∧ H' = addB B A') (fun _ _ => False)
def RndJ {σ : Type} (lp : Nat) (L : DO) (s : σ × Bool) (I : σ → Hp → Prop) (X : σ → Option Code → Hp → Prop) : EX → Fr → Hp → Prop
 | .normal, _, He => ∃ A', s.2 = true ∧ I s.1 A' ∧ A' lp = none ∧ SubH (A'.upd lp (some L)) He
 | .exit id, _, He => ∃ A', s.2 = false ∧ X s.1 (some (.exit id)) A' ∧ A' lp = none ∧ SubH (A'.upd lp (some L)) He
 | .ret, _, He => ∃ A', s.2 = false ∧ X s.1 (some .ret) A' ∧ A' lp = none ∧ SubH (A'.upd lp (some L)) He
 | .panic _, _, _ => False
theorem subH_upd {A B : Hp} {k : Nat} {o o' : Option DO} (h : SubH (A.upd k o) B) : SubH (A.upd k o') (B.upd k o') := by
 intro j x hj
 by_cases e : j = k
 · subst e; rw [Hp.upd_same] at hj ⊢; exact hj
 · rw [Hp.upd_ne e] at hj ⊢
   exact h j x (by rw [Hp.upd_ne e]; exact hj)
theorem AC.rngJ {σ α : Type} {f : FuncId} {x : X} {ps : List Nat} {cas cbd : CC} {df dc : List DV} {Q : EX → Fr → Hp → Prop} {fr : Fr} {enc : α → List DV} {l : List α} {B : List (Nat × DO)}
  (hx : XV G fr x = .func (.func f) df dc) (hit : ITER P G f df dc enc l B) (hlen : ∀ a, (enc a).length = ps.length) (R : σ → α → Prop) (I : σ → Hp → Prop) (X : σ → Option Code → Hp → Prop) (step : σ → α → σ × Bool)
  (body : ∀ (s : σ) (a : α) (A : Hp) (lp : Nat) (L : DO), notF L → R s a → I s A → A lp = none →
   AC P G (some lp) N cas (fun e fr1 H1 => e = .normal ∧ ∃ A1 : Hp, A1 lp = none ∧ H1 = A1.upd lp (some L) ∧ ∀ L', notF L' → AC P G (some lp) N cbd (RndJ lp L' (step s a) I X) fr1 (A1.upd lp (some L'))) (putAll fr ps (enc a)) (A.upd lp (some L)))
  (s0 : σ) (A0 : Hp) (hR : okR R step s0 l) (h0 : I s0 A0) (hB : freeB B A0)
  (hfin : ∀ A', (runG step s0 l).2 = true → I (runG step s0 l).1 A' → freeB B A' → Q .normal fr (addB B A'))
  (hbrk : ∀ A' p, (runG step s0 l).2 = false → X (runG step s0 l).1 p A' → freeB B A' → Pend Q fr (addB B A') p) : AC P G none N (.rng x ps cas cbd) Q fr (addB B A0) := by
 refine AC.rng hx fun lp as bd has hbd hlp => ?_
 obtain ⟨hout, hA0⟩ := none_out hlp
 let rec_ : LoopState → Option Code → DO := fun st pend => .loop N ps as bd fr st pend
 have hnf : ∀ st p, notF (rec_ st p) := fun st p => notF_loop
 let J : σ → Hp → Prop := fun s A' => ∃ A, I s A ∧ A lp = none ∧ A' = A.upd lp (some (rec_ .ready none))
 let E : σ → Hp → Prop := fun s A' => ∃ A p, X s p A ∧ A lp = none ∧ A' = A.upd lp (some (rec_ .done p))
 have hy : YJ P G enc R (.func (.yield lp) [] []) step J E := by
  rintro s a A' hok ⟨A, hI, hA, rfl⟩
  refine .inr ⟨lp, rfl, ?_⟩
  refine YLD.of (N := N) (ps := ps) (as := as) (bd := bd) (fr := fr) Hp.upd_same (hlen a) has hbd ?_
  refine AC.mono (body s a A lp (rec_ .ready none) (hnf _ _) hok hI hA) ?_
  rintro e fr1 H1 ⟨rfl, A1, hA1, rfl, hb⟩
  refine ⟨rfl, Hp.upd_same, ?_⟩
  rw [Hp.upd_upd]
  refine AC.mono (hb (rec_ .busy none) (hnf _ _)) ?_
  intro e fr2 He hq
  cases e with
  | normal =>
    obtain ⟨A', q1, q2, q3, q4⟩ := hq
    refine ⟨q4 lp _ Hp.upd_same, _, subH_upd q4, by rw [q1], fun _ => ⟨A', q2, q3, rfl⟩, fun h => by rw [q1] at h; cases h⟩
  | exit id =>
    obtain ⟨A', q1, q2, q3, q4⟩ := hq
    refine ⟨q4 lp _ Hp.upd_same, _, subH_upd q4, by rw [q1], fun h => (by rw [q1] at h; cases h), fun _ => ⟨A', _, q2, q3, rfl⟩⟩
  | ret =>
    obtain ⟨A', q1, q2, q3, q4⟩ := hq
    refine ⟨q4 lp _ Hp.upd_same, _, subH_upd q4, by rw [q1], fun h => (by rw [q1] at h; cases h), fun _ => ⟨A', _, q2, q3, rfl⟩⟩
  | panic d => exact hq.elim
 have hc := hit σ _ step R J E s0 (A0.upd lp (some (rec_ .ready none))) hy rfl hR ⟨A0, h0, hA0, rfl⟩ (freeB_upd hB hout)
 rw [← addB_upd hout] at hc
 refine hc.mono ?_ (fun _ _ h => h.elim)
 rintro _ H' ⟨A', k1, k2, k3, rfl⟩
 cases e : (runG step s0 l).2
 · obtain ⟨A, p, g1, g2, rfl⟩ := k2 e
   refine ⟨.done, p, by rw [addB_out hout]; exact Hp.upd_same, by simp, ?_⟩
   have hfa : freeB B A := by
    have := freeB_upd (k := lp) (o := none) k3 hout
    rw [Hp.upd_upd, Hp.upd_id g2] at this; exact this
   rw [addB_upd hout, Hp.upd_upd, Hp.upd_id g2]
   exact hbrk A p e g1 hfa
 · obtain ⟨A, g1, g2, rfl⟩ := k1 e
   refine ⟨.ready, none, by rw [addB_out hout]; exact Hp.upd_same, by simp, ?_⟩
   have hfa : freeB B A := by
    have := freeB_upd (k := lp) (o := none) k3 hout
    rw [Hp.upd_upd, Hp.upd_id g2] at this; exact this
   rw [addB_upd hout, Hp.upd_upd, Hp.upd_id g2]
   exact hfin A e g1 hfa
end
end Go.Run
