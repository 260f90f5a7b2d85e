/- Part 2 of a proof: texts G G2 K M M2 S V W. -/
import Derived.Test.YthmjdmianbobbaaGreatDoorVA
import Derived.RangeFuncRecord
import Derived.OrdersIn
import Derived.IntWalk
import Derived.Laws.IdiomStrings
namespace Go.Run
open Go Go.RowKit
section
variable {P : Program} {G : Gl} {r : Option Nat} {N : Nat}
theorem cOp_alloc {o : Op} {zs : List DV} {ty : TypeId} (h : cOp P o = some (.alloc zs ty)) : ∃ z, o = .alloc ty ∧ zeroT P ty = some z ∧ zs = z.1 := by
 cases o
 case alloc t =>
  simp only [cOp] at h
  rw [Option.bind_eq_some_iff] at h
  obtain ⟨z, h1, h⟩ := h
  cases h
  exact ⟨z, rfl, h1, rfl⟩
 all_goals (first | (cases h; done) | skip)
 all_goals exfalso
 all_goals simp only [cOp] at h
 all_goals repeat' (first | (rw [Option.bind_eq_some_iff] at h; obtain ⟨_, _, h⟩ := h) | split at h)
 all_goals cases h
theorem cOp_box {o : Op} {ty : TypeId} {x : X} (h : cOp P o = some (.box ty x)) : ∃ y, o = .box ty y ∧ x = cX y := by
 cases o
 case box t y => cases h; exact ⟨y, rfl, rfl⟩
 all_goals (first | (cases h; done) | skip)
 all_goals exfalso
 all_goals simp only [cOp] at h
 all_goals repeat' (first | (rw [Option.bind_eq_some_iff] at h; obtain ⟨_, _, h⟩ := h) | split at h)
 all_goals cases h
theorem cOp_st {o : Op} {sz : Nat} {x y : X} (h : cOp P o = some (.st sz x y)) : ∃ t i a b, o = .store t a b ∧ P.info? t = some i ∧ sz = i.size ∧ x = cX a ∧ y = cX b := by
 cases o
 case store t a b =>
  simp only [cOp] at h
  rw [Option.bind_eq_some_iff] at h
  obtain ⟨i, h1, h⟩ := h
  cases h
  exact ⟨t, i, a, b, rfl, h1, rfl, rfl, rfl⟩
 all_goals (first | (cases h; done) | skip)
 all_goals exfalso
 all_goals simp only [cOp] at h
 all_goals repeat' (first | (rw [Option.bind_eq_some_iff] at h; obtain ⟨_, _, h⟩ := h) | split at h)
 all_goals cases h
theorem cOp_calv {o : Op} {x : X} {xs : List X} (h : cOp P o = some (.calv x xs)) : ∃ c y, o = .call c ∧ c.callee = .value y ∧ x = cX y ∧ xs = c.args.toList.map cX := by
 cases o
 case call c =>
  simp only [cOp] at h
  split at h
  case h_7 => cases h; exact ⟨c, _, rfl, ‹_›, rfl, rfl⟩
  all_goals exfalso
  all_goals repeat' (first | (rw [Option.bind_eq_some_iff] at h; obtain ⟨_, _, h⟩ := h) | split at h)
  all_goals cases h
 all_goals (first | (cases h; done) | skip)
 all_goals exfalso
 all_goals simp only [cOp] at h
 all_goals repeat' (first | (rw [Option.bind_eq_some_iff] at h; obtain ⟨_, _, h⟩ := h) | split at h)
 all_goals cases h
theorem cOp_pan {o : Op} {x : X} (h : cOp P o = some (.pan x)) : ∃ y, o = .panic y ∧ x = cX y := by
 cases o
 case panic y => cases h; exact ⟨y, rfl, rfl⟩
 all_goals (first | (cases h; done) | skip)
 all_goals exfalso
 all_goals simp only [cOp] at h
 all_goals repeat' (first | (rw [Option.bind_eq_some_iff] at h; obtain ⟨_, _, h⟩ := h) | split at h)
 all_goals cases h
theorem cOp_bsl {o : Op} {ty : TypeId} {len sz : Nat} {zs : List DV} {ps : List (Nat × Nat × X)} (h : cOp P o = some (.bsl ty len sz zs ps)) :
  ∃ t qs z, o = .buildSlice t len qs ∧ P.underlying t = some (.slice ty) ∧ zeroT P ty = some z ∧ sz = z.2 ∧ len * sz ≤ 16777216 ∧ 0 < sz ∧ zs = List.flatten (List.replicate len z.1) ∧ ps = qs.toList.map fun p => (p.1 * sz, sz, cX p.2) := by
 cases o
 case buildSlice t n qs =>
  simp only [cOp] at h
  split at h
  · rename_i e hu
    rw [Option.bind_eq_some_iff] at h
    obtain ⟨z, h1, h⟩ := h
    split at h
    · rename_i hc; cases h; exact ⟨t, qs, z, rfl, hu, h1, rfl, hc.1, hc.2, rfl, rfl⟩
    · cases h
  · cases h
 all_goals (first | (cases h; done) | skip)
 all_goals exfalso
 all_goals simp only [cOp] at h
 all_goals repeat' (first | (rw [Option.bind_eq_some_iff] at h; obtain ⟨_, _, h⟩ := h) | split at h)
 all_goals cases h
theorem cOp_app {o : Op} {ty sz bytes : Nat} {x y : X} (h : cOp P o = some (.app ty sz bytes x y)) :
  ∃ c s u t t' z i, o = .call c ∧ c.callee = .builtin .append ∧ c.args = #[s, u] ∧ c.argTypes = #[t, t'] ∧ P.underlying t = some (.slice ty) ∧ ((∃ e, P.underlying t' = some (.slice e)) ∨ P.underlying t' = some .string) ∧
   zeroT P ty = some z ∧ P.info? ty = some i ∧ sz = z.2 ∧ bytes = i.bytes ∧ 0 < sz ∧ 0 < bytes ∧ x = cX s ∧ y = cX u := by
 cases o
 case call c =>
  simp only [cOp] at h
  split at h
  case h_4 =>
   split at h <;> first | (cases h; done) | skip
   rename_i hcal _ _ s u t t' ha ht
   have hargs : c.args = #[s, u] := by rw [← Array.toList_inj]; exact ha
   have htys : c.argTypes = #[t, t'] := by rw [← Array.toList_inj]; exact ht
   split at h
   · rename_i e e' h1 h2
     rw [Option.bind_eq_some_iff] at h
     obtain ⟨z, hz, h⟩ := h
     rw [Option.bind_eq_some_iff] at h
     obtain ⟨i, hi, h⟩ := h
     split at h
     · rename_i hp; cases h; exact ⟨c, s, u, t, t', z, i, rfl, hcal, hargs, htys, h1, .inl ⟨_, h2⟩, hz, hi, rfl, rfl, hp.1, hp.2, rfl, rfl⟩
     · cases h
   · rename_i e h1 h2
     rw [Option.bind_eq_some_iff] at h
     obtain ⟨z, hz, h⟩ := h
     rw [Option.bind_eq_some_iff] at h
     obtain ⟨i, hi, h⟩ := h
     split at h
     · rename_i hp; cases h; exact ⟨c, s, u, t, t', z, i, rfl, hcal, hargs, htys, h1, .inr h2, hz, hi, rfl, rfl, hp.1, hp.2, rfl, rfl⟩
     · cases h
   · cases h
  all_goals exfalso
  all_goals repeat' (first | (rw [Option.bind_eq_some_iff] at h; obtain ⟨_, _, h⟩ := h) | split at h)
  all_goals cases h
 all_goals (first | (cases h; done) | skip)
 all_goals exfalso
 all_goals simp only [cOp] at h
 all_goals repeat' (first | (rw [Option.bind_eq_some_iff] at h; obtain ⟨_, _, h⟩ := h) | split at h)
 all_goals cases h
theorem alloc_cells {w : World} {H : Hp} {Z : Zn} (hr : HR G w H Z) {arr : Array Value} {cs : List DV} (h : RL w H Z arr cs) (ty : TypeId) :
  HR G (w.alloc (.cells arr ty)) (H.upd w.heap.size (some (.cells cs ty))) Z ∧ Ext w H Z (w.alloc (.cells arr ty)) (H.upd w.heap.size (some (.cells cs ty))) Z :=
 alloc_tracked hr _ _ fun hx => ⟨arr, (0, 0), heap_alloc_new w _, .inl rfl, h.size, h.one, fun j v d e1 e2 => (h.val j v d e1 e2).ext hr hx⟩
theorem ST.alloc {zs : List DV} {ty : TypeId} {dst : Option Nat} {K : Fr → Hp → Prop} {Q : EX → Fr → Hp → Prop} {fr : Fr} {H : Hp}
  (h : ∀ b, H b = none → K (fr.put dst (.ptr b 0)) (H.upd b (some (.cells zs ty)))) : ST P G r N (.alloc zs ty) dst K Q fr H := by
 intro n base w Z a o hc hx hd hr hf
 obtain ⟨z, ho, hz, rfl⟩ := cOp_alloc hc
 obtain ⟨i, z0, hi, hz0, hz1, hz2, hz3⟩ := zeroT_sound hz
 have hrl := zero_RL (w := w) (H := H) (Z := Z) hz3
 rw [hz1] at hrl
 obtain ⟨h1, h2⟩ := alloc_cells hr hrl ty
 refine wpIn_value (v := .pointer (some ⟨w.heap.size, 0, none⟩)) (by rw [ho]; intro c e; cases e) ?_ ⟨_, _, Z, h w.heap.size (hr.free (Nat.le_refl _)), h1, ?_, h2⟩
 · simp only [execOp, ho, Instr.alloc, Sem.run_bind, zeroValue, typeInfo, run_program, Result.andThen_ok, hi, hz0, Sem.run_pure, newVar, newRow, run_newObj]
   rfl
 · rw [hd]; exact (hf.ext hr h2).putO (.ptr _ _)
theorem ST.box {ty : TypeId} {x : X} {ys : List DV} {dst : Option Nat} {K : Fr → Hp → Prop} {Q : EX → Fr → Hp → Prop} {fr : Fr} {H : Hp} (hy : cellsD (XV G fr x) = some ys)
  (h : ∀ b, H b = none → K (fr.put dst (.ptr b 0)) (H.upd b (some (.cells ys ty)))) : ST P G r N (.box ty x) dst K Q fr H := by
 intro n base w Z a o hc hx hd hr hf
 obtain ⟨y, ho, rfl⟩ := cOp_box hc
 have hrl := cellsD_sound (cX_sound hr hf (by simpa [opX] using hx)) hy
 obtain ⟨h1, h2⟩ := alloc_cells hr hrl ty
 refine wpIn_value (v := .pointer (some ⟨w.heap.size, 0, none⟩)) (by rw [ho]; intro c e; cases e) ?_ ⟨_, _, Z, h w.heap.size (hr.free (Nat.le_refl _)), h1, ?_, h2⟩
 · simp only [execOp, ho, Instr.box, Sem.run_bind, Result.andThen_ok, Sem.run_pure, newVar, newRow, run_newObj]
   rfl
 · rw [hd]; exact (hf.ext hr h2).putO (.ptr _ _)
theorem store_cells {w : World} {H : Hp} {Z : Zn} (hr : HR G w H Z) {b off : Nat} {cs ys : List DV} {ty : TypeId} (hb : H b = some (.cells cs ty)) {vs : Array Value} (hv : RL w H Z vs ys) (hl : off + ys.length ≤ cs.length) :
  ∃ w', (storeCells ⟨b, off, none⟩ vs.toList 0).run P w = .ok () w' ∧ HR G w' (H.upd b (some (.cells (spliceL off ys cs) ty))) Z ∧ Ext w H Z w' (H.upd b (some (.cells (spliceL off ys cs) ty))) Z := by
 obtain ⟨arr, fz, hw, hfz, hs, ho, hva⟩ := hr.obj b _ hb
 have hvs := hv.size
 have hle : off + vs.toList.length ≤ arr.toList.length := by simp; omega
 have hrun := run_storeCells' (P := P) (b := b) (o := off) (ty := ty) (fz := fz) vs.toList 0 arr w hw (by rcases hfz with h | h; exact .inl (by omega); exact .inr h) (by simp; omega) (fun v hm => by
  obtain ⟨j, hj⟩ := List.getElem?_of_mem hm
  exact hv.one j v (by simpa using hj))
 simp only [Nat.add_zero] at hrun
 refine ⟨_, hrun, ?_⟩
 have get : ∀ k, (arr.toList.take off ++ vs.toList ++ arr.toList.drop (off + vs.toList.length)).toArray[k]? = if off ≤ k ∧ k < off + ys.length then vs[k - off]? else arr[k]? := by
  intro k
  rw [List.getElem?_toArray, splice_get hle]
  simp only [Array.length_toList, Array.getElem?_toList, hvs]
 refine set_cells hr hb hw hfz (by simp; omega) (by
  show _ = (spliceL off ys cs).length
  unfold spliceL; rw [splice_length hl]; simp; omega) (fun j v hj => ?_) (fun j v d hj hd => ?_)
 · rw [get] at hj
   split at hj
   · exact hv.one _ _ hj
   · exact ho _ _ hj
 · rw [get] at hj
   unfold spliceL at hd
   rw [splice_get hl] at hd
   split at hj
   · rename_i hc
     rw [if_pos hc] at hd
     exact hv.val _ _ _ hj hd
   · rename_i hc
     rw [if_neg hc] at hd
     exact hva _ _ _ hj hd
theorem ST.st {sz b off : Nat} {x y : X} {cs ys : List DV} {ty : TypeId} {dst : Option Nat} {K : Fr → Hp → Prop} {Q : EX → Fr → Hp → Prop} {fr : Fr} {H : Hp} (hx' : XV G fr x = .ptr b off) (hb : H b = some (.cells cs ty))
  (hy : cellsD (XV G fr y) = some ys) (hl : ys.length = sz) (hle : off + sz ≤ cs.length) (h : K (fr.put dst .junk) (H.upd b (some (.cells (spliceL off ys cs) ty)))) : ST P G r N (.st sz x y) dst K Q fr H := by
 intro n base w Z a o hc hx hd hr hf
 obtain ⟨t, i, p, q, ho, hi, rfl, rfl, rfl⟩ := cOp_st hc
 simp only [opX, List.all_cons, List.all_nil, Bool.and_true, Bool.and_eq_true] at hx
 have hp := cX_sound hr hf hx.1
 rw [hx'] at hp
 have hrl := cellsD_sound (cX_sound hr hf hx.2) hy
 obtain ⟨w', h1, h2, h3⟩ := store_cells (P := P) hr hb hrl (off := off) (by omega)
 refine wpIn_skipped (w' := w') (by rw [ho]; intro c e; cases e) ?_ ⟨_, _, Z, h, h2, ?_, h3⟩
 · have hsz : ¬ (a.eval q).cells.size ≠ i.size := by have := hrl.size; omega
   simp only [execOp, ho, Instr.storeAt, hp.ptr_inv, Instr.sureAddr, Sem.run_bind, Sem.run_pure, Result.andThen_ok, storeVar, run_sizeOf hi]
   rw [if_neg hsz]
   simp only [h1, Result.andThen_ok]
 · rw [hd]; exact (hf.ext hr h3).putO (.junk _)
theorem ST.calv {f : FuncId} {x : X} {xs : List X} {df dc : List DV} {dst : Option Nat} {K : Fr → Hp → Prop} {Q : EX → Fr → Hp → Prop} {fr : Fr} {H : Hp} (hx' : XV G fr x = .func (.func f) df dc)
  (h : CALL P G f (df ++ xs.map (XV G fr) ++ dc) H (fun d H' => K (fr.put dst d) H') (fun d H' => Q (.panic d) fr H')) : ST P G r N (.calv x xs) dst K Q fr H := by
 intro n base w Z a o hc hx hd hr hf
 obtain ⟨c, y, ho, hcal, rfl, rfl⟩ := cOp_calv hc
 simp only [opX, List.all_cons, Bool.and_eq_true] at hx
 have hy := cX_sound hr hf hx.1
 rw [hx'] at hy
 obtain ⟨h1, h2⟩ := vr_map hr hf c.args hx.2
 generalize hev : a.eval y = vy at hy
 obtain ⟨fs, cp, rfl, e1, e2, g1, g2⟩ : ∃ fs cp : Array Value, vy = .func (.func f) fs cp ∧ fs.size = df.length ∧ cp.size = dc.length ∧ (∀ (j : Nat) (v : Value) (d : DV), fs[j]? = some v → df[j]? = some d → VR w H Z v d) ∧
   (∀ (j : Nat) (v : Value) (d : DV), cp[j]? = some v → dc[j]? = some d → VR w H Z v d) := by
  cases hy; exact ⟨_, _, rfl, ‹_›, ‹_›, ‹_›, ‹_›⟩
 have hsz : (fs ++ c.args.map a.eval ++ cp).size = (df ++ (c.args.toList.map cX).map (XV G fr) ++ dc).length := by simp; omega
 have hall : ∀ (j : Nat) (v : Value) (d : DV), (fs ++ c.args.map a.eval ++ cp)[j]? = some v → (df ++ (c.args.toList.map cX).map (XV G fr) ++ dc)[j]? = some d → VR w H Z v d := by
  intro j v d hj hd
  rw [List.append_assoc] at hd
  rw [Array.append_assoc] at hj
  rw [Array.getElem?_append] at hj
  rw [List.getElem?_append] at hd
  by_cases c1 : j < fs.size
  · rw [if_pos c1] at hj
    rw [if_pos (by omega)] at hd
    exact g1 j v d hj hd
  · rw [if_neg c1] at hj
    rw [if_neg (by omega)] at hd
    rw [Array.getElem?_append] at hj
    rw [List.getElem?_append, ← e1] at hd
    simp only [Array.size_map, List.length_map, Array.length_toList] at hj hd
    split at hj
    · rename_i c2
      rw [if_pos c2] at hd
      exact h2 _ v d hj (by simpa [List.map_map, Function.comp_def] using hd)
    · rename_i c2
      rw [if_neg c2] at hd
      exact g2 _ v d hj hd
 refine wpIn_call (by rw [ho]; intro c e; cases e) hd hr hf (fun hfn => ?_) hsz hall h
 obtain ⟨fn, k1, k2, k3⟩ := hfn
 simp only [execOp, ho, resolve, hcal, hev, Deferred.ofValue, Sem.run_bind, Sem.run_pure, Result.andThen_ok, invoke]
 exact run_enter k1 k2 k3 _ _
theorem ST.pan {x : X} {t : TypeId} {dv : DV} {dst : Option Nat} {K : Fr → Hp → Prop} {Q : EX → Fr → Hp → Prop} {fr : Fr} {H : Hp} (hx' : XV G fr x = .iface t dv) (h : Q (.panic (.iface t dv)) fr H) : ST P G r N (.pan x) dst K Q fr H := by
 intro n base w Z a o hc hx hd hr hf
 obtain ⟨y, ho, rfl⟩ := cOp_pan hc
 have hy := cX_sound hr hf (by simpa [opX] using hx)
 rw [hx'] at hy
 generalize hev : a.eval y = vy at hy
 have hy' := hy
 cases hy
 rename_i v hv
 refine ⟨about_wide o w _, ?_⟩
 rw [Oper.semAt_eq _ _ _ (by rw [ho]; intro c e; cases e)]
 have : (execOp a.eval o).run P w = .halt (.panic (.iface t v)) w := by
  simp only [execOp, ho, hev, Instr.panic, Sem.run_bind, run_goPanic, Result.andThen_halt]
 rw [this]
 exact ⟨.panic (.iface t dv), fr, H, Z, h, ⟨_, rfl, hy'⟩, hr, hf, .refl hr⟩
end
section
variable {P : Program} {G : Gl} {r : Option Nat} {N : Nat} {w : World} {H : Hp} {Z : Zn}
theorem alloc_front (hr : HR G w H Z) {arr : Array Value} {cs : List DV} {n sz cap : Nat} (ty : TypeId) (hl : cs.length = n * sz) (hcap : arr.size = cap * sz) (hn : n ≤ cap)
  (one : ∀ (j : Nat) (v : Value), j < cs.length → arr[j]? = some v → v.oneCell' = true) (val : ∀ (j : Nat) (v : Value) (d : DV), arr[j]? = some v → cs[j]? = some d → VR w H Z v d) :
  HR G (w.alloc (.cells arr ty)) (H.upd w.heap.size (some (.front n sz ty))) Z ∧ Ext w H Z (w.alloc (.cells arr ty)) (H.upd w.heap.size (some (.front n sz ty))) Z ∧
   VR (w.alloc (.cells arr ty)) (H.upd w.heap.size (some (.front n sz ty))) Z (.slice (some ⟨w.heap.size, 0, none⟩) n cap) (.lst cs n sz (some (w.heap.size, 0))) := by
 have hnew : (w.alloc (.cells arr ty)).heap[w.heap.size]? = some (.cells arr ty (0, 0)) := heap_alloc_new w _
 obtain ⟨h1, h2⟩ := alloc_tracked hr (.cells arr ty) (.front n sz ty) fun hx => ⟨arr, (0, 0), cap, hnew, hn, hcap, .inl (Nat.zero_le _)⟩
 refine ⟨h1, h2, .lst _ _ _ _ _ _ (fun j => arr.getD j undef) hl hn (fun j hj => ?_) (fun j hj => ?_) (fun j d hd => ?_) (fun b off e => ?_)⟩
 · have hlt : j < arr.size := by rw [hcap]; have := Nat.mul_le_mul_right sz hn; omega
   refine ⟨_, rfl, rfl, ?_, .inr ⟨n, sz, ty, upd_self _ _ _, by simp; omega⟩⟩
   rw [cell_of_row _ _ _ _ _ _ hnew]
   simp [Array.getD, hlt]
 · have hlt : j < arr.size := by rw [hcap]; have := Nat.mul_le_mul_right sz hn; omega
   have e : arr.getD j undef = arr[j] := by simp [Array.getD, hlt]
   rw [e]; exact one j _ hj (Array.getElem?_eq_getElem hlt)
 · have hj := (List.getElem?_eq_some_iff.1 hd).1
   have hlt : j < arr.size := by rw [hcap]; have := Nat.mul_le_mul_right sz hn; omega
   have e : arr.getD j undef = arr[j] := by simp [Array.getD, hlt]
   rw [e]
   exact (val j _ d (Array.getElem?_eq_getElem hlt) hd).ext hr h2
 · cases e
   refine ⟨by simp, fun f sz' ty' hf => ?_⟩
   rw [upd_self] at hf
   cases hf
   exact ⟨by omega, fun _ => ⟨rfl, by simp, arr, (0, 0), hnew, by simpa using hcap⟩⟩
theorem bldD_length {f : X → DV} : ∀ (ps : List (Nat × Nat × X)) (cs ds : List DV), bldD f ps cs = some ds → ds.length = cs.length
 | [], cs, ds, h => by cases h; rfl
 | (off, sz, x) :: ps, cs, ds, h => by
   simp only [bldD] at h
   split at h
   · split at h
     · rename_i hc
       rw [bldD_length ps _ ds h]
       unfold spliceL
       exact splice_length (by omega)
     · cases h
   · cases h
theorem flatten_get {α : Type} (l : List α) (hl : l ≠ []) : ∀ (n j : Nat), j < n * l.length → (List.flatten (List.replicate n l))[j]? = l[j % l.length]?
 | 0, j, h => by simp at h
 | n + 1, j, h => by
   have hpos : 0 < l.length := List.length_pos_iff.2 hl
   rw [List.replicate_succ, List.flatten_cons, List.getElem?_append]
   by_cases hj : j < l.length
   · rw [if_pos hj, Nat.mod_eq_of_lt hj]
   · rw [if_neg hj, flatten_get l hl n (j - l.length) (by rw [Nat.add_mul] at h; omega), ← Nat.mod_eq_sub_mod (by omega)]
theorem zeros_RL {z0 : Value} {size n : Nat} (h : z0.cells.all (·.oneCell') = true ∧ z0.cells.size = size) (hp : 0 < size) :
  RL w H Z ((Array.range (n * size)).map (z0.cells[· % z0.cells.size]!)) (List.flatten (List.replicate n (z0.cells.toList.map cV))) := by
 have hz := zero_RL (w := w) (H := H) (Z := Z) h
 have hne : z0.cells.toList.map cV ≠ [] := by intro e; have := congrArg List.length e; simp at this; have := h.2; simp_all
 have hlen : (z0.cells.toList.map cV).length = size := by simp [h.2]
 have get : ∀ j v, ((Array.range (n * size)).map (z0.cells[· % z0.cells.size]!))[j]? = some v → j < n * size ∧ z0.cells[j % size]? = some v := by
  intro j v hj
  rw [Array.getElem?_map] at hj
  by_cases hlt : j < n * size
  · have : (Array.range (n * size))[j]? = some j := by simp [hlt]
    rw [this] at hj
    simp only [Option.map_some, Option.some.injEq] at hj
    refine ⟨hlt, ?_⟩
    have hm : j % size < z0.cells.size := by rw [h.2]; exact Nat.mod_lt _ hp
    rw [h.2] at hj
    rw [Array.getElem?_eq_getElem hm, ← hj]
    exact congrArg some (getElem!_pos z0.cells (j % size) hm).symm
  · have : (Array.range (n * size))[j]? = none := by simp; omega
    rw [this] at hj; cases hj
 refine ⟨by simp [h.2], fun j v hj => hz.one _ _ (get j v hj).2, fun j v d hj hd => ?_⟩
 obtain ⟨g1, g2⟩ := get j v hj
 rw [flatten_get _ hne n j (by rw [hlen]; exact g1), hlen] at hd
 exact hz.val _ _ _ g2 hd
theorem ST.bsl {ty len sz : Nat} {zs cs : List DV} {ps : List (Nat × Nat × X)} {dst : Option Nat} {K : Fr → Hp → Prop} {Q : EX → Fr → Hp → Prop} {fr : Fr} {H : Hp} (hb : bldD (XV G fr) ps zs = some cs)
  (h : ∀ b, H b = none → K (fr.put dst (.lst cs len sz (some (b, 0)))) (H.upd b (some (.front len sz ty)))) : ST P G r N (.bsl ty len sz zs ps) dst K Q fr H := by
 intro n base w Z a o hc hx hd hr hf
 obtain ⟨t, qs, z, ho, hu, hz, hsz, hle, hpos, rfl, rfl⟩ := cOp_bsl hc
 obtain ⟨i, z0, hi, hz0, hz1, hz2, hz3⟩ := zeroT_sound hz
 have hsi : i.size = sz := by omega
 have hrl := zeros_RL (w := w) (H := H) (Z := Z) (n := len) hz3 (by omega)
 rw [hz1, hsi] at hrl
 have hx' := List.all_eq_true.1 hx
 obtain ⟨arr', k1, k2⟩ := fill_sound (w := w) (H := H) (Z := Z) (place := fun n => some (n * sz, sz)) (fr := fr) (G := G) (ρ := a.eval) qs.toList _ _ _ cs (by simp) (fun j p q e1 e2 => by
  rw [List.getElem?_map, e1] at e2
  cases e2
  refine ⟨rfl, cX_sound hr hf ?_⟩
  have : cX p.2 ∈ (qs.toList.map fun p => ((p.1 * sz, sz, cX p.2) : Nat × Nat × X)).map (·.2.2) := List.mem_map.2 ⟨_, List.mem_map.2 ⟨p, List.mem_of_getElem? e1, rfl⟩, rfl⟩
  exact hx' _ this) hrl hb
 have hcl : cs.length = len * sz := by rw [bldD_length _ _ _ hb, ← hrl.size]; simp
 obtain ⟨h1, h2, h3⟩ := alloc_front hr ty (n := len) (sz := sz) (cap := len) hcl (by rw [k2.size, hcl]) (Nat.le_refl _) (fun j v _ hj => k2.one j v hj) k2.val
 have hrun : (Instr.buildSlice t len (qs.map fun p => (p.1, a.eval p.2))).run P w = .ok (.slice (some ⟨w.heap.size, 0, none⟩) len len) (w.alloc (.cells arr' ty)) := by
  have hno : ¬ (len * sz > 2 ^ 24) := by omega
  by_cases hz : len * sz = 0
  · have hl0 : len = 0 := by rcases Nat.mul_eq_zero.1 hz with h | h; exact h; omega
    subst hl0
    have ea : (Array.range (0 * sz)).map (z0.cells[· % z0.cells.size]!) = #[] := by simp
    rw [ea] at k1
    have e0 : Array.range 0 = (#[] : Array Nat) := rfl
    simp [Instr.buildSlice, run_underlying hu, run_sizeOf hi, newRow, hsi, e0, k1]
    try rfl
  · have hz' : ¬ (len = 0 ∨ sz = 0) := by intro h; rcases h with h | h <;> simp [h] at hz
    simp only [Instr.buildSlice, Sem.run_bind, run_underlying hu, Result.andThen_ok, run_sizeOf hi, hsi]
    rw [if_neg hno, if_neg hz]
    simp [zeroValue, typeInfo, hi, hz0, newRow, k1]
    try rfl
 refine wpIn_value (v := .slice (some ⟨w.heap.size, 0, none⟩) len len) (by rw [ho]; intro c e; cases e) (by simp only [execOp, ho, Sem.run_bind, hrun, Result.andThen_ok, Sem.run_pure]) ⟨_, _, Z, h w.heap.size (hr.free (Nat.le_refl _)), h1, ?_, h2⟩
 rw [hd]; exact (hf.ext hr h2).putO h3
def B8 (u : UInt8) : DV := .int .u8 u.toNat
def srcD (H : Hp) (sz : Nat) : DV → Option (List DV × Nat)
 | .lst ys m sz' _ => if sz' = sz then some (ys, m) else none
 | .nils => some ([], 0)
 | .zc => some ([], 0)
 | .str s => if sz = 1 then some (s.map B8, s.length) else none
 | .win b off n _ => match H b with
   | some (.cells cs _) => if off + n * sz ≤ cs.length then some ((cs.drop off).take (n * sz), n) else none
   | _ => none
 | _ => none
theorem loadCells_RL {a : Addr} {cs : List DV} {vs : Nat → Value} (h : CP w H Z a cs vs) {n : Nat} (hn : n = cs.length) : ∃ arr, (loadCells a n).run P w = .ok arr w ∧ RL w H Z arr cs := by
 subst hn
 have hl := loadCells_from (P := P) (w := w) h.spot (vs := vs) cs.length 0 #[] (fun j _ h2 => (h.cell j (by omega)).1)
 refine ⟨_, hl, by simp, fun j v hj => ?_, fun j v d hj hd => ?_⟩
 · simp only [Array.empty_append, List.getElem?_toArray, List.getElem?_map] at hj
   cases e : (List.range' 0 cs.length)[j]? with
   | none => rw [e] at hj; cases hj
   | some q =>
     rw [e] at hj
     have := List.getElem?_range'_lt' e
     cases hj
     exact h.one _ this
 · simp only [Array.empty_append, List.getElem?_toArray, List.getElem?_map] at hj
   have hlt := (List.getElem?_eq_some_iff.1 hd).1
   have : (List.range' 0 cs.length)[j]? = some j := by simp [hlt]
   rw [this] at hj
   cases hj
   exact h.val _ _ hd
theorem src_sound (hr : HR G w H Z) {sz m : Nat} {x : Value} {dx : DV} {ys : List DV} (hx : VR w H Z x dx) (h : srcD H sz dx = some (ys, m)) :
  (Builtin.lenOf x).run P w = .ok m w ∧ ∃ arr, (Builtin.firstCells sz m x).run P w = .ok arr w ∧ RL w H Z arr ys ∧ ys.length = m * sz := by
 have emp : RL w H Z #[] [] := ⟨rfl, fun j v hj => by simp at hj, fun j v d hj => by simp at hj⟩
 unfold srcD at h
 split at h <;> first | (cases h; done) | skip
 · rename_i cs n sz' tag
   split at h <;> cases h
   rename_i e
   subst e
   obtain ⟨A, c, vs, rfl, h1, _, _, _, hA⟩ := hx.lst_inv
   refine ⟨rfl, ?_⟩
   by_cases hne : ys = []
   · subst hne
     have h0 : m * sz' = 0 := by simpa using h1.symm
     cases A with
     | none => exact ⟨#[], rfl, emp, h1⟩
     | some a => exact ⟨#[], by simp [Builtin.firstCells, loadCells, h0, loadCellsFrom], emp, h1⟩
   · obtain ⟨a, rfl, hc⟩ := hA hne
     obtain ⟨arr, k1, k2⟩ := loadCells_RL (P := P) hc (n := m * sz') h1.symm
     exact ⟨arr, k1, k2, h1⟩
 · cases h; cases hx; exact ⟨rfl, #[], rfl, emp, by simp⟩
 · cases h; cases hx
   rename_i A
   refine ⟨rfl, #[], ?_, emp, by simp⟩
   cases A <;> simp [Builtin.firstCells, loadCells, loadCellsFrom]
 · rename_i s
   split at h <;> cases h
   rename_i e
   subst e
   obtain ⟨b, rfl, rfl⟩ := hx.str_inv
   refine ⟨by rw [toList_size]; rfl, (b.data.map fun b => Value.int .u8 b.toNat), ?_, ⟨by simp, fun j v hj => ?_, fun j v d hj hd => ?_⟩, by simp⟩
   · have : b.extract 0 b.data.toList.length = b := by rw [toList_size]; simp
     simp only [Builtin.firstCells, this, Sem.run_pure]
   · rw [Array.getElem?_map] at hj
     cases e : b.data[j]? with
     | none => rw [e] at hj; cases hj
     | some u => rw [e] at hj; cases hj; rfl
   · rw [Array.getElem?_map] at hj
     rw [List.getElem?_map, Array.getElem?_toList] at hd
     cases e : b.data[j]? with
     | none => rw [e] at hj; cases hj
     | some u => rw [e] at hj hd; cases hj; cases hd; exact .int _ _
 · rename_i b off n cap
   split at h <;> first | (cases h; done) | skip
   rename_i cs ty hb
   split at h <;> cases h
   rename_i hle
   cases hx
   obtain ⟨arr, fz, hw, _, hs, ho, hv⟩ := hr.obj b _ hb
   have hlen : ((cs.drop off).take (m * sz)).length = m * sz := by simp; omega
   refine ⟨rfl, ?_⟩
   have hl := loadCells_from (P := P) (w := w) (a := ⟨b, off, none⟩) rfl (vs := fun j => arr.getD (off + j) undef) (m * sz) 0 #[] (fun j _ h2 => by
    rw [cell_of_row _ _ _ _ _ _ hw]
    have : off + j < arr.size := by omega
    simp [Array.getD, this])
   have get : ∀ (j : Nat) (v : Value), (#[] ++ ((List.range' 0 (m * sz)).map fun j => arr.getD (off + j) undef).toArray)[j]? = some v → j < m * sz ∧ arr[off + j]? = some v := by
    intro j v hj
    simp only [Array.empty_append, List.getElem?_toArray, List.getElem?_map] at hj
    cases e : (List.range' 0 (m * sz))[j]? with
    | none => rw [e] at hj; cases hj
    | some q =>
      rw [e] at hj
      have hq := List.getElem?_range'_lt' e
      have hjq : q = j := by
       have := (List.getElem?_eq_some_iff.1 e).2
       simpa using this.symm
      subst hjq
      have : off + q < arr.size := by omega
      simp only [Option.map_some, Option.some.injEq] at hj
      refine ⟨hq, ?_⟩
      rw [Array.getElem?_eq_getElem this, ← hj]
      simp [Array.getD, this]
   refine ⟨_, hl, ⟨by simp; omega, fun j v hj => ho _ _ (get j v hj).2, fun j v d hj hd => ?_⟩, hlen⟩
   obtain ⟨g1, g2⟩ := get j v hj
   rw [List.getElem?_take, if_pos g1, List.getElem?_drop] at hd
   exact hv _ _ _ g2 hd
theorem front_put (hr : HR G w H Z) {b n sz m c : Nat} {ty : TypeId} {cs ys : List DV} (hb : H b = some (.front n sz ty)) (hl : VR w H Z (.slice (some ⟨b, 0, none⟩) n c) (.lst cs n sz (some (b, 0))))
  {arr fz} (hw : w.heap[b]? = some (.cells arr ty fz)) (hac : arr.size = c * sz) (hfz : fz.2 ≤ n * sz ∨ arr.size ≤ fz.1) {vs : Array Value} (hv : RL w H Z vs ys) (hy : ys.length = m * sz) (hroom : n + m ≤ c) :
  ∃ w', (storeCells ⟨b, n * sz, none⟩ vs.toList 0).run P w = .ok () w' ∧ HR G w' (H.upd b (some (.front (n + m) sz ty))) Z ∧ Ext w H Z w' (H.upd b (some (.front (n + m) sz ty))) Z ∧
   VR w' (H.upd b (some (.front (n + m) sz ty))) Z (.slice (some ⟨b, 0, none⟩) (n + m) c) (.lst (cs ++ ys) (n + m) sz (some (b, 0))) := by
 have hd := hr.dom b _ hb
 have hvs := hv.size
 have hnm : n * sz + m * sz ≤ arr.size := by rw [← Nat.add_mul, hac]; exact Nat.mul_le_mul_right _ hroom
 have hle : n * sz + vs.toList.length ≤ arr.toList.length := by simp; omega
 have hrun := run_storeCells' (P := P) (b := b) (o := n * sz) (ty := ty) (fz := fz) vs.toList 0 arr w hw hfz (by simp; omega) (fun v hm => by
  obtain ⟨j, hj⟩ := List.getElem?_of_mem hm
  exact hv.one j v (by simpa using hj))
 simp only [Nat.add_zero] at hrun
 generalize harr : (arr.toList.take (n * sz) ++ vs.toList ++ arr.toList.drop (n * sz + vs.toList.length)).toArray = arr' at hrun
 have get : ∀ k, arr'[k]? = if n * sz ≤ k ∧ k < n * sz + ys.length then vs[k - n * sz]? else arr[k]? := by
  intro k
  rw [← harr, List.getElem?_toArray, splice_get hle]
  simp only [Array.length_toList, Array.getElem?_toList, hvs]
 have hsz' : arr'.size = arr.size := by rw [← harr]; simp; omega
 have hnew : (setArr w b arr' ty fz).heap[b]? = some (.cells arr' ty fz) := setArr_self hd.1
 have hx : Ext w H Z (setArr w b arr' ty fz) (H.upd b (some (.front (n + m) sz ty))) Z := {
  size := by rw [setArr_size]; exact Nat.le_refl _
  os := rfl
  tape := rfl
  output := rfl
  imm := fun k hk => by
   have hne : k ≠ b := fun e => hd.2 (e ▸ hk)
   exact ⟨hk, by rw [upd_ne _ _ hne]; exact hr.apart hk, setArr_ne hne⟩
  priv := fun k hk hz hh => by
   have hne : k ≠ b := fun e => by rw [e, hb] at hh; cases hh
   exact ⟨hz, by rw [upd_ne _ _ hne]; exact hh, setArr_ne hne⟩
  frt := fun k f s' ty' hk _ => by
   by_cases e : k = b
   · subst e; rw [upd_self] at hk; cases hk; exact ⟨n, hb, by omega⟩
   · rw [upd_ne _ _ e] at hk; exact ⟨f, hk, Nat.le_refl _⟩
  pre := fun k f s' ty' hk => by
   by_cases e : k = b
   · subst e
     rw [hb] at hk
     cases hk
     refine ⟨.inr ⟨n + m, by omega, upd_self _ _ _⟩, fun a f' ha => ?_⟩
     rw [hw] at ha
     cases ha
     exact ⟨arr', fz, hnew, hsz', fun j hj => by rw [get j, if_neg (by omega)]⟩
   · exact ⟨.inr ⟨f, Nat.le_refl _, by rw [upd_ne _ _ e]; exact hk⟩, fun a f' ha => ⟨a, f', (setArr_ne e).trans ha, rfl, fun _ _ => rfl⟩⟩ }
 refine ⟨_, hrun, ⟨fun k o e => ?_, fun k hk => by rw [setArr_size]; exact hr.zlt k hk, fun k o e => ?_, fun g cs e => (hr.glob g cs e).ext hr hx⟩, hx, ?_⟩
 · rw [setArr_size]
   by_cases h : k = b
   · subst h; exact hd
   · rw [upd_ne _ _ h] at e; exact hr.dom k o e
 · by_cases h : k = b
   · subst h
     rw [upd_self] at e
     cases e
     refine ⟨arr', fz, c, hnew, hroom, by rw [hsz', hac], ?_⟩
     rcases hfz with h | h
     · exact .inl (by rw [Nat.add_mul]; omega)
     · exact .inr (by rw [hsz']; exact h)
   · rw [upd_ne _ _ h] at e
     exact (hr.obj k o e).ext hr hx (setArr_ne h)
 · obtain ⟨A, c', vs0, e0, h1, h2, h4, _, hA⟩ := hl.lst_inv
   cases e0
   have hys := hy
   have hlen : (cs ++ ys).length = (n + m) * sz := by rw [List.length_append, h1, hy, Nat.add_mul]
   have gv : ∀ j, j < (cs ++ ys).length → j < arr'.size := by intro j hj; rw [hlen, Nat.add_mul] at hj; omega
   have hold : ∀ j, j < cs.length → arr[j]? = some (vs0 j) ∧ (vs0 j).oneCell' = true := by
    intro j hj
    obtain ⟨a, ea, hcp⟩ := hA (by intro e; rw [e] at hj; simp at hj)
    cases ea
    have := (hcp.cell j hj).1
    rw [cell_of_row _ _ _ _ _ _ hw] at this
    exact ⟨by simpa using this, hcp.one j hj⟩
   refine .lst _ _ _ _ _ _ (fun j => arr'.getD j undef) hlen hroom (fun j hj => ?_) (fun j hj => ?_) (fun j d hd => ?_) (fun b' off e => ?_)
   · have hlt := gv j hj
     refine ⟨_, rfl, rfl, ?_, .inr ⟨n + m, sz, ty, upd_self _ _ _, by simp; omega⟩⟩
     rw [cell_of_row _ _ _ _ _ _ hnew]
     simp [Array.getD, hlt]
   · have hlt := gv j hj
     have e : arr'.getD j undef = arr'[j] := by simp [Array.getD, hlt]
     have g := get j
     rw [Array.getElem?_eq_getElem hlt] at g
     rw [e]
     split at g
     · exact hv.one _ _ g.symm
     · rename_i hc
       have hjc : j < cs.length := by rw [List.length_append] at hj; omega
       rw [(hold j hjc).1] at g
       have hg : arr'[j] = vs0 j := by simpa using g
       rw [hg]; exact (hold j hjc).2
   · have hj := (List.getElem?_eq_some_iff.1 hd).1
     have hlt := gv j hj
     have e : arr'.getD j undef = arr'[j] := by simp [Array.getD, hlt]
     have g := get j
     rw [Array.getElem?_eq_getElem hlt] at g
     rw [e]
     split at g
     · rename_i hc
       rw [List.getElem?_append_right (by omega)] at hd
       exact (hv.val _ _ _ g.symm (by rw [h1] at hd; exact hd)).ext hr hx
     · rename_i hc
       have hjc : j < cs.length := by rw [List.length_append] at hj; omega
       rw [(hold j hjc).1] at g
       rw [List.getElem?_append_left hjc] at hd
       have := h4 j d hd
       have hg : arr'[j] = vs0 j := by simpa using g
       rw [hg]; exact this.ext hr hx
   · cases e
     refine ⟨by rw [setArr_size]; exact hd.1, fun f sz' ty' hf => ?_⟩
     rw [upd_self] at hf
     cases hf
     exact ⟨by omega, fun _ => ⟨rfl, by simp, arr', fz, hnew, by rw [hsz', hac]; simp⟩⟩
theorem run_app_room {t t' ty : TypeId} {i : TypeInfo} (hu : P.underlying t = some (.slice ty)) (ht : (∃ e, P.underlying t' = some (.slice e)) ∨ P.underlying t' = some .string) (hi : P.info? ty = some i) {a : Addr} {n c m : Nat} {x : Value}
  {vs : Array Value} (hl : (Builtin.lenOf x).run P w = .ok m w) (hf : (Builtin.firstCells i.size m x).run P w = .ok vs w) (hroom : n + m ≤ c) {w' : World} (hs : (storeCells (a.add (n * i.size)) vs.toList).run P w = .ok () w') (tt : TypeId) :
  (Builtin.append_ #[t, t'] tt #[.slice (some a) n c, x]).run P w = .ok (.slice (some a) (n + m) c) w' := by
 rcases ht with ⟨e, hd⟩ | hd <;> simp [Builtin.append_, run_underlying hu, run_underlying hd, run_sizeOf hi, hl, hroom, hf, hs]
theorem run_app_nothing {t t' ty : TypeId} {i : TypeInfo} (hu : P.underlying t = some (.slice ty)) (ht : (∃ e, P.underlying t' = some (.slice e)) ∨ P.underlying t' = some .string) (hi : P.info? ty = some i) {A : Option Addr} {x : Value}
  {vs : Array Value} (hl : (Builtin.lenOf x).run P w = .ok 0 w) (hf : (Builtin.firstCells i.size 0 x).run P w = .ok vs w) (hv : vs = #[]) (tt : TypeId) :
  (Builtin.append_ #[t, t'] tt #[.slice A 0 0, x]).run P w = .ok (.slice A 0 0) w := by
 subst hv
 rcases ht with ⟨e, hd⟩ | hd <;> cases A <;> simp [Builtin.append_, run_underlying hu, run_underlying hd, run_sizeOf hi, hl, hf, storeCells]
theorem run_app_grow {t t' ty : TypeId} {i : TypeInfo} {z0 : Value} (hu : P.underlying t = some (.slice ty)) (ht : (∃ e, P.underlying t' = some (.slice e)) ∨ P.underlying t' = some .string) (hi : P.info? ty = some i) (hz : i.zero = some z0)
  {A : Option Addr} {n c m : Nat} {x : Value} {os vs : Array Value} (hl : (Builtin.lenOf x).run P w = .ok m w) (ho : (Builtin.firstCells i.size n (.slice A n c)).run P w.drew = .ok os w.drew)
  (hf : (Builtin.firstCells i.size m x).run P w.drew = .ok vs w.drew) (hroom : ¬ n + m ≤ c) (hb0 : 0 < i.bytes) (hbytes : (n + m) * i.bytes ≤ 140737488355328) (tt : TypeId) :
  ∃ cap, n + m ≤ cap ∧ (Builtin.append_ #[t, t'] tt #[.slice A n c, x]).run P w =
   .ok (.slice (some ⟨w.heap.size, 0, none⟩) (n + m) cap) (w.drew.alloc (.cells (os ++ vs ++ Builtin.zeroCells z0.cells (cap - (n + m))) ty)) := by
 have h1 : ¬ (281474976710656 < Builtin.nextslicecap (n + m) c * i.bytes) := by have := growslice_fits (need := n + m) (old := c) (by omega) hbytes; omega
 have hle : n + m ≤ (n + m) * i.bytes := Nat.le_mul_of_pos_right _ hb0
 have hb1 : ¬ i.bytes = 0 := by omega
 refine ⟨grownCap w (n + m) c ty, grownCap_ge w _ _ _, ?_⟩
 rcases ht with ⟨e, hd⟩ | hd <;>
  simp [Builtin.append_, run_underlying hu, run_underlying hd, run_sizeOf hi, hl, hroom, hf, ho, typeInfo, hi, hb1, h1, zeroValue, hz, Question.forced, newRow, grownCap]
theorem drew_same (w : World) : Same w w.drew := ⟨rfl, rfl, rfl, rfl⟩
theorem drewHR (hr : HR G w H Z) : HR G w.drew H Z ∧ Ext w H Z w.drew H Z :=
 have hx := (drew_same w).ext hr
 ⟨hr.of_ext hx fun _ _ _ => rfl, hx⟩
theorem app_exec {o : Oper} {c : Call} {s u : Operand} {t t' : TypeId} {a : Act} {v : Value} {w' : World} (ho : o.op = .call c) (hcal : c.callee = .builtin .append) (hargs : c.args = #[s, u]) (htys : c.argTypes = #[t, t'])
  (h : (Builtin.append_ #[t, t'] o.type #[a.eval s, a.eval u]).run P w = .ok v w') : (execOp a.eval o).run P w = .ok (.value v) w' := by
 simp only [execOp, ho, resolve, hcal, hargs, htys, List.map_toArray, List.map_cons, List.map_nil, invoke, builtin, Sem.run_bind, Sem.run_pure, Result.andThen_ok, h]
theorem ST.app_nothing {ty sz bytes : Nat} {x y : X} {ys : List DV} {dst : Option Nat} {K : Fr → Hp → Prop} {Q : EX → Fr → Hp → Prop} {fr : Fr} {H : Hp} (hx' : XV G fr x = .nils ∨ XV G fr x = .zc) (hy : srcD H sz (XV G fr y) = some (ys, 0))
  (h : K (fr.put dst (XV G fr x)) H) : ST P G r N (.app ty sz bytes x y) dst K Q fr H := by
 intro n base w Z a o hc hx hd hr hf
 obtain ⟨c, s, u, t, t', z, i, ho, hcal, hargs, htys, hu, ht, hz, hi, rfl, rfl, hp, hb0, rfl, rfl⟩ := cOp_app hc
 obtain ⟨i', z0, hi', hz0, hz1, hz2, hz3⟩ := zeroT_sound hz
 rw [hi] at hi'; cases hi'
 simp only [opX, List.all_cons, List.all_nil, Bool.and_true, Bool.and_eq_true] at hx
 have hs := cX_sound hr hf hx.1
 obtain ⟨g1, vs, g2, g3, g4⟩ := src_sound (P := P) hr (cX_sound hr hf hx.2) hy
 have hvs : vs = #[] := by
  have := g3.size
  rw [g4] at this
  simpa using this
 have hsv : ∃ A, a.eval s = .slice A 0 0 := by
  rcases hx' with e | e <;> rw [e] at hs
  · generalize a.eval s = q at hs; cases hs; exact ⟨_, rfl⟩
  · generalize a.eval s = q at hs; cases hs; exact ⟨_, rfl⟩
 obtain ⟨A, hA⟩ := hsv
 rw [hz2] at g2
 refine wpIn_value (v := .slice A 0 0) (by rw [ho]; intro c e; cases e) (app_exec ho hcal hargs htys (by rw [hA]; exact run_app_nothing hu ht hi g1 g2 hvs _)) ⟨_, H, Z, h, hr, ?_, .refl hr⟩
 rw [hd]
 exact hf.putO (by rw [← hA]; exact hs)
theorem ST.app_new {ty sz bytes m : Nat} {x y : X} {ys : List DV} {dst : Option Nat} {K : Fr → Hp → Prop} {Q : EX → Fr → Hp → Prop} {fr : Fr} {H : Hp} (hx' : XV G fr x = .nils ∨ XV G fr x = .zc) (hy : srcD H sz (XV G fr y) = some (ys, m))
  (hm : 0 < m) (hbd : m * bytes ≤ 140737488355328) (h : ∀ b, H b = none → K (fr.put dst (.lst ys m sz (some (b, 0)))) (H.upd b (some (.front m sz ty)))) : ST P G r N (.app ty sz bytes x y) dst K Q fr H := by
 intro n base w Z a o hc hx hd hr hf
 obtain ⟨c, s, u, t, t', z, i, ho, hcal, hargs, htys, hu, ht, hz, hi, rfl, rfl, hp, hb0, rfl, rfl⟩ := cOp_app hc
 obtain ⟨i', z0, hi', hz0, hz1, hz2, hz3⟩ := zeroT_sound hz
 rw [hi] at hi'; cases hi'
 simp only [opX, List.all_cons, List.all_nil, Bool.and_true, Bool.and_eq_true] at hx
 have hs := cX_sound hr hf hx.1
 obtain ⟨g1, _⟩ := src_sound (P := P) hr (cX_sound hr hf hx.2) hy
 obtain ⟨hr1, hx1⟩ := drewHR hr
 obtain ⟨_, vs, g2, g3, g4⟩ := src_sound (P := P) hr1 ((cX_sound hr hf hx.2).ext hr hx1) hy
 have hsv : ∃ A, a.eval s = .slice A 0 0 := by
  rcases hx' with e | e <;> rw [e] at hs
  · generalize a.eval s = q at hs; cases hs; exact ⟨_, rfl⟩
  · generalize a.eval s = q at hs; cases hs; exact ⟨_, rfl⟩
 obtain ⟨A, hA⟩ := hsv
 rw [hz2] at g2
 have hfs := g3.size
 obtain ⟨cap, hcap, hrun⟩ := run_app_grow (A := A) (n := 0) (c := 0) hu ht hi hz0 g1 (os := #[]) (by cases A <;> simp [Builtin.firstCells, loadCells, loadCellsFrom]) g2 (by omega) hb0 (by simpa using hbd) o.type
 simp only [Nat.zero_add, Array.empty_append] at hrun hcap
 have hzs : (Builtin.zeroCells z0.cells (cap - m)).size = (cap - m) * z.2 := by rw [size_zeroCells, hz3.2, hz2]
 have hpre : ∀ (j : Nat) (v : Value), j < ys.length → (vs ++ Builtin.zeroCells z0.cells (cap - m))[j]? = some v → vs[j]? = some v := by
  intro j v hj hv
  rw [Array.getElem?_append_left (by omega)] at hv
  exact hv
 obtain ⟨h1, h2, h3⟩ := alloc_front hr1 ty (n := m) (sz := z.2) (cap := cap) (arr := vs ++ Builtin.zeroCells z0.cells (cap - m)) g4 (by rw [Array.size_append, hzs, hfs, g4, ← Nat.add_mul]; congr 1; omega) hcap
  (fun j v hj hv => g3.one j v (hpre j v hj hv)) (fun j v d hv hdj => g3.val j v d (hpre j v (List.getElem?_eq_some_iff.1 hdj).1 hv) hdj)
 refine wpIn_value (by rw [ho]; intro c e; cases e) (app_exec ho hcal hargs htys (by rw [hA]; exact hrun)) ⟨_, _, Z, h w.heap.size (hr.free (Nat.le_refl _)), h1, ?_, hx1.trans h2⟩
 rw [hd]
 exact (hf.ext hr (hx1.trans h2)).putO h3
theorem ST.app_own {ty sz bytes n m b : Nat} {x y : X} {cs ys : List DV} {dst : Option Nat} {K : Fr → Hp → Prop} {Q : EX → Fr → Hp → Prop} {fr : Fr} {H : Hp} (hx' : XV G fr x = .lst cs n sz (some (b, 0))) (hb : H b = some (.front n sz ty))
  (hy : srcD H sz (XV G fr y) = some (ys, m)) (hbd : (n + m) * bytes ≤ 140737488355328)
  (h : ∀ b', b' = b ∨ H b' = none → K (fr.put dst (.lst (cs ++ ys) (n + m) sz (some (b', 0)))) ((H.upd b none).upd b' (some (.front (n + m) sz ty)))) : ST P G r N (.app ty sz bytes x y) dst K Q fr H := by
 intro n0 base w Z a o hc hx hd hr hf
 obtain ⟨c, s, u, t, t', z, i, ho, hcal, hargs, htys, hu, ht, hz, hi, rfl, rfl, hp, hb0, rfl, rfl⟩ := cOp_app hc
 obtain ⟨i', z0, hi', hz0, hz1, hz2, hz3⟩ := zeroT_sound hz
 rw [hi] at hi'; cases hi'
 simp only [opX, List.all_cons, List.all_nil, Bool.and_true, Bool.and_eq_true] at hx
 have hs := cX_sound hr hf hx.1
 rw [hx'] at hs
 obtain ⟨A, cp, vs0, hAe, k1, k2, k4, kt, kA⟩ := hs.lst_inv
 obtain ⟨_, kt2⟩ := kt b 0 rfl
 obtain ⟨_, kt3⟩ := kt2 n z.2 ty hb
 obtain ⟨_, rfl, arr, fz, kw, ksz⟩ := kt3 (by omega)
 simp only [Nat.zero_mul, Nat.zero_add] at hAe ksz
 rw [hAe] at hs
 obtain ⟨g1, vs, g2, g3, g4⟩ := src_sound (P := P) hr (cX_sound hr hf hx.2) hy
 rw [hz2] at g2
 by_cases hroom : n + m ≤ cp
 · obtain ⟨arr', fz', cap', e1, _, _, e4⟩ := hr.obj b _ hb
   rw [kw] at e1
   cases e1
   obtain ⟨w', h1, h2, h3, h4⟩ := front_put (P := P) hr hb hs kw ksz e4 g3 g4 hroom
   have hup : (H.upd b none).upd b (some (.front (n + m) z.2 ty)) = H.upd b (some (.front (n + m) z.2 ty)) := by
    funext q; simp only [Hp.upd]; split <;> rfl
   have hst : (storeCells ((⟨b, 0, none⟩ : Addr).add (n * i.size)) vs.toList).run P w = .ok () w' := by
    rw [add_off rfl, ← hz2]; simpa using h1
   refine wpIn_value (by rw [ho]; intro c e; cases e) (app_exec ho hcal hargs htys (by rw [hAe]; exact run_app_room hu ht hi g1 g2 hroom hst _)) ⟨_, _, Z, h b (.inl rfl), by rw [hup]; exact h2, ?_, by rw [hup]; exact h3⟩
   rw [hd, hup]
   exact (hf.ext hr h3).putO h4
 · obtain ⟨hr1, hx1⟩ := drewHR hr
   obtain ⟨_, vs', g2', g3', g4'⟩ := src_sound (P := P) hr1 ((cX_sound hr hf hx.2).ext hr hx1) hy
   have hsrc : srcD H z.2 (.lst cs n z.2 (some (b, 0))) = some (cs, n) := by simp [srcD]
   obtain ⟨_, os, f2, f3, f4⟩ := src_sound (P := P) hr1 (hs.ext hr hx1) hsrc
   rw [hz2] at g2' f2
   obtain ⟨cap, hcap, hrun⟩ := run_app_grow hu ht hi hz0 g1 f2 g2' hroom hb0 hbd o.type
   have hzs : (Builtin.zeroCells z0.cells (cap - (n + m))).size = (cap - (n + m)) * z.2 := by rw [size_zeroCells, hz3.2, hz2]
   have hos := f3.size
   have hvs := g3'.size
   have hcat : RL w.drew H Z (os ++ vs') (cs ++ ys) := by
    refine ⟨by simp; omega, fun j v hj => ?_, fun j v d hj hdj => ?_⟩
    · rw [Array.getElem?_append] at hj
      split at hj
      · exact f3.one _ _ hj
      · exact g3'.one _ _ hj
    · rw [Array.getElem?_append] at hj
      rw [List.getElem?_append, ← hos] at hdj
      split at hj
      · rename_i hc'; rw [if_pos hc'] at hdj; exact f3.val _ _ _ hj hdj
      · rename_i hc'; rw [if_neg hc'] at hdj; exact g3'.val _ _ _ hj hdj
   have hcl : (cs ++ ys).length = (n + m) * z.2 := by rw [List.length_append, f4, g4', Nat.add_mul]
   have hpre : ∀ (j : Nat) (v : Value), j < (cs ++ ys).length → (os ++ vs' ++ Builtin.zeroCells z0.cells (cap - (n + m)))[j]? = some v → (os ++ vs')[j]? = some v := by
    intro j v hj hv
    rw [Array.getElem?_append_left (by rw [hcat.size]; exact hj)] at hv
    exact hv
   obtain ⟨h1, h2, h3⟩ := alloc_front hr1 ty (n := n + m) (sz := z.2) (cap := cap) (arr := os ++ vs' ++ Builtin.zeroCells z0.cells (cap - (n + m))) hcl (by rw [Array.size_append, hzs, hcat.size, hcl, ← Nat.add_mul]; congr 1; omega) hcap
    (fun j v hj hv => hcat.one j v (hpre j v hj hv)) (fun j v d hv hdj => hcat.val j v d (hpre j v (List.getElem?_eq_some_iff.1 hdj).1 hv) hdj)
   have hbs : b ≠ w.heap.size := by have := (hr.dom b _ hb).1; omega
   have hsub : SubH ((H.upd b none).upd w.heap.size (some (.front (n + m) z.2 ty))) (H.upd w.heap.size (some (.front (n + m) z.2 ty))) := by
    intro q o' e
    simp only [Hp.upd] at e ⊢
    split at e
    · rename_i hq; rw [if_pos hq]; exact e
    · rename_i hq
      rw [if_neg hq]
      split at e
      · cases e
      · exact e
   have hxx := (hx1.trans h2).drop hsub
   refine wpIn_value (by rw [ho]; intro c e; cases e) (app_exec ho hcal hargs htys (by rw [hAe]; exact hrun)) ⟨_, _, _, h w.heap.size (.inr (hr.free (Nat.le_refl _))), h1.drop hsub, ?_, hxx⟩
   rw [hd]
   exact (hf.ext hr hxx).putO (h3.drop hsub)
end
inductive CC where
 | skip
 | reg (l : List Ins)
 | draw (l : List Ins) (after : List (List Nat))
 | seq (a b : CC)
 | cond (x : X) (a b : CC)
 | block (id : Nat) (c : CC)
 | loop (c : CC)
 | rng (x : X) (ps : List Nat) (assign body : CC)
 | exit (id : Nat)
 | ret
 | scp (c : CC)
 | stuck
inductive RV where
 | tmp (t : Nat)
 | cell (t : Nat) (agg : Bool) (sz : Nat)
theorem stepR_scope {P : Program} {b : Frame} {a : Act} {k : List Item} {cs : List Frame} {w : World} {c : Code} : step P (lone (b.atR a (.code (.scope c) :: k)) cs w) = .next (lone (b.atR a (.code c :: .inScope c :: k)) cs w) :=
 step_lone_go (by simp [stepG, stepG.exec, Frame.atR])
theorem stepR_inScope {P : Program} {b : Frame} {a : Act} {k : List Item} {cs : List Frame} {w : World} {c : Code} : step P (lone (b.atR a (.inScope c :: k)) cs w) = .next (lone (b.atR a k) cs w) :=
 step_lone_go (by simp [stepG, stepG.exec, Frame.atR])
theorem wpIn_scope {F : Fence} {n : Nat} {P : Program} {c : Code} {Q : Exit → Act → World → Prop} {a : Act} {w : World} (h : c.wpIn F n P (Exit.noGoto Q) a w) : (Code.scope c).wpIn F n P Q a w := by
 intro b k cs hro hb hr
 have h0 : (lone (b.atR a (.code (.scope c) :: k)) cs w).fenced P F := fenced_calm hb hr rfl
 obtain ⟨e, a₁, w₁, hq, harr⟩ := h b (.inScope c :: k) cs hro hb hr
 cases e with
 | normal => exact ⟨.normal, a₁, w₁, hq, .head h0 stepR_scope (StepsIn.trans harr (.one (fenced_calm hb hr rfl) stepR_inScope))⟩
 | exit id' =>
   have hx : exitTo id' (.inScope c :: k) = exitTo id' k := by simp [exitTo]
   exact ⟨.exit id', a₁, w₁, hq, fun k' hk => .head h0 stepR_scope (harr.1 k' (by rw [hx]; exact hk)),
    fun hr' hk => let ⟨k₁, h1, h2⟩ := harr.2 hr' (by rw [hx]; exact hk); ⟨k₁, h1, .head h0 stepR_scope h2⟩⟩
 | goto l => exact hq.elim
 | ret => exact ⟨_, a₁, w₁, hq, .of_steps (.one h0 stepR_scope) harr⟩
 | panic ch => exact ⟨_, a₁, w₁, hq, .of_steps (.one h0 stepR_scope) harr⟩
 | outgrown => exact ⟨_, a₁, w₁, hq, .of_steps (.one h0 stepR_scope) harr⟩
section
variable {P : Program} {G : Gl} {r : Option Nat} {N : Nat}
theorem AW.label {l : Nat} {Q : EX → Fr → Hp → Prop} {fr : Fr} {H : Hp} (h : Q .normal fr H) : AW P G r N (.label l) Q fr H :=
 fun _ _ _ Z _ hr hf => wpIn_label ⟨.normal, fr, H, Z, h, trivial, hr, hf, .refl hr⟩
theorem AW.scope {c : Code} {Q : EX → Fr → Hp → Prop} {fr : Fr} {H : Hp} (h : AW P G r N c Q fr H) : AW P G r N (.scope c) Q fr H := by
 intro n base w Z a hr hf
 refine wpIn_scope (wpIn_mono (h n base w Z a hr hf) fun e a' w' hp => ?_)
 cases e with
 | goto l => obtain ⟨ex, _, _, _, _, hk, _⟩ := hp; cases ex <;> exact hk.elim
 | _ => exact hp
end
def cAll (P : Program) (N : Nat) (ops : Array Oper) : List Oper → Option (List Ins)
 | [] => some []
 | o :: os => (cIns P N ops o).bind fun i => (cAll P N ops os).bind fun r => some (i :: r)
def depsOf (o : Oper) : List Nat := (o.after.toList.filter (fun e => Region.binds .any e)).map (·.on)
def edgesBack : List Oper → Nat → Bool
 | [], _ => true
 | o :: os, i => o.after.toList.all (fun e => !(Region.binds .any e) || Nat.blt e.on i) && edgesBack os (i + 1)
def cCode (P : Program) (N : Nat) : Code → Option CC
 | .skip => some .skip
 | .region _ ops draw => (cAll P N ops ops.toList).bind fun l => if draw then (if P.follows .mixedOrders && edgesBack ops.toList 0 then some (.draw l (ops.toList.map depsOf)) else none) else some (.reg l)
 | .seq a b => (cCode P N a).bind fun x => (cCode P N b).bind fun y => some (.seq x y)
 | .cond c a b => if XOk N (cX c) then (cCode P N a).bind fun x => (cCode P N b).bind fun y => some (.cond (cX c) x y) else none
 | .block id c => (cCode P N c).bind fun x => some (.block id x)
 | .loop c => (cCode P N c).bind fun x => some (.loop x)
 | .rangeFunc f ps a b => if XOk N (cX f) && ps.all (· < N) then (cCode P N a).bind fun x => (cCode P N b).bind fun y => some (.rng (cX f) ps.toList x y) else none
 | .exit id => some (.exit id)
 | .ret => some .ret
 | .label _ => some .skip
 | .scope c => (cCode P N c).bind fun x => some (.scp x)
 | .goto _ => some .stuck
 | .refuse _ => some .stuck
def cRes (P : Program) (N : Nat) : List ResultVar → Option (List RV)
 | [] => some []
 | .tmp t :: rs => if t < N then (cRes P N rs).bind fun l => some (.tmp t :: l) else none
 | .cell t ty :: rs => if t < N then (P.info? ty).bind fun i => (P.underlying ty).bind fun _ => (cRes P N rs).bind fun l => some (.cell t (isAggT P ty) (if isAggT P ty then i.size else 1) :: l) else none
structure FN where
 N : Nat
 c : CC
 rs : List RV
def cFn (P : Program) (f : FuncId) : Option FN :=
 (P.funcs[f]?).bind fun fn => fn.body.bind fun c => if fn.name == "runtime.NumGoroutine" then none else
  (cCode P fn.ntmps c).bind fun cc => (cRes P fn.ntmps fn.results.toList).bind fun rs => some ⟨fn.ntmps, cc, rs⟩
def evRes (H : Hp) (fr : Fr) : List RV → Option (List DV)
 | [] => some []
 | .tmp t :: rs => (evRes H fr rs).bind fun l => some (fr t :: l)
 | .cell t agg sz :: rs => (ldD H agg sz (fr t)).bind fun d => (evRes H fr rs).bind fun l => some (d :: l)
def tupD : List DV → DV
 | [d] => d
 | ds => .tup ds
def DLe (d d' : DV) : Prop := ∀ (w : World) (H : Hp) (Z : Zn) (v : Value), VR w H Z v d → VR w H Z v d'
theorem DLe.refl (d : DV) : DLe d d := fun _ _ _ _ h => h
def Cv (H H' : Hp) (d d' : DV) : Prop := ∀ (G : Gl) (w : World) (Z : Zn), HR G w H Z → ∃ Z', HR G w H' Z' ∧ Ext w H Z w H' Z' ∧ ∀ v, VR w H Z v d → VR w H' Z' v d'
theorem Cv.of {H H' : Hp} {d d' : DV} (h : DLe d d') (hs : SubH H' H) : Cv H H' d d' := fun _ _ _ hr => ⟨_, hr.drop hs, (Ext.refl hr).drop hs, fun _ hv => (h _ _ _ _ hv).drop hs⟩
def argFr (ds : List DV) : Fr := fun t => (ds[t]?).getD .junk
def Fin (rs : List RV) (Kr Kp : DV → Hp → Prop) : EX → Fr → Hp → Prop
 | .normal, fr, He => ∃ l d H', evRes He fr rs = some l ∧ Cv He H' (tupD l) d ∧ Kr d H'
 | .ret, fr, He => ∃ l d H', evRes He fr rs = some l ∧ Cv He H' (tupD l) d ∧ Kr d H'
 | .panic d, _, He => ∃ H', SubH H' He ∧ Kp d H'
 | .exit _, _, _ => False
section
variable (P : Program) (G : Gl) (r : Option Nat) (N : Nat)
def AC (c : CC) (Q : EX → Fr → Hp → Prop) (fr : Fr) (H : Hp) : Prop := ∀ code, cCode P N code = some c → AW P G r N code Q fr H
def Sq (c : CC) (Q : EX → Fr → Hp → Prop) : EX → Fr → Hp → Prop
 | .normal, fr, H => AC P G r N c Q fr H
 | e, fr, H => Q e fr H
def PF (f : FuncId) (ds : List DV) (d : DV) : Prop := ∀ H, CALL P G f ds H (fun d' H' => d' = d ∧ H' = H) (fun _ _ => False)
variable {P G r N}
theorem bindS {α β : Type} {x : Option α} {f : α → Option β} {y : β} (h : x.bind f = some y) : ∃ i, x = some i ∧ f i = some y := bindP' h
theorem cAll_sound {ops : Array Oper} : ∀ (os : List Oper) (l : List Ins), cAll P N ops os = some l → os.map (cIns P N ops) = l.map some
 | [], l, h => by cases h; rfl
 | o :: os, l, h => by
   simp only [cAll] at h
   obtain ⟨i, h1, h⟩ := bindS h
   obtain ⟨r, h2, h⟩ := bindS h
   cases h
   simp [h1, cAll_sound os r h2]
theorem cAll_range {ops : Array Oper} {l : List Ins} (h : cAll P N ops ops.toList = some l) : (List.range ops.size).map (fun i => (ops[i]?).bind (cIns P N ops)) = l.map some := by
 rw [← cAll_sound _ _ h]
 apply List.ext_getElem?
 intro j
 rw [List.getElem?_map, List.getElem?_map]
 have e3 : ops.toList[j]? = ops[j]? := Array.getElem?_toList
 rw [e3]
 by_cases hj : j < ops.size
 · have : (List.range ops.size)[j]? = some j := by simp [hj]
   rw [this]
   cases e : ops[j]? with
   | none => simp [hj] at e
   | some o => simp [e]
 · have h1 : (List.range ops.size)[j]? = none := by simp; omega
   have h2 : ops[j]? = none := by simp; omega
   rw [h1, h2]; rfl
theorem AC.mono {c : CC} {Q Q' : EX → Fr → Hp → Prop} {fr : Fr} {H : Hp} (h : AC P G r N c Q fr H) (hq : ∀ e fr H, Q e fr H → Q' e fr H) : AC P G r N c Q' fr H := fun code hc => (h code hc).mono hq
theorem AC.skip {Q : EX → Fr → Hp → Prop} {fr : Fr} {H : Hp} (h : Q .normal fr H) : AC P G r N .skip Q fr H := by
 intro code hc
 cases code
 case skip => exact AW.skip h
 case label l => exact AW.label h
 case region id ops d =>
  simp only [cCode] at hc
  obtain ⟨_, _, hc⟩ := bindS hc
  split at hc <;> first | (cases hc; done) | (split at hc <;> cases hc)
 all_goals (first | (cases hc; done) | skip)
 all_goals simp only [cCode] at hc
 all_goals repeat' (first | (rw [Option.bind_eq_some_iff] at hc; obtain ⟨_, _, hc⟩ := hc) | split at hc)
 all_goals cases hc
theorem cCode_reg {code : Code} {l : List Ins} (hc : cCode P N code = some (.reg l)) : ∃ id ops, code = .region id ops false ∧ cAll P N ops ops.toList = some l := by
 cases code
 case region id ops d =>
  simp only [cCode] at hc
  obtain ⟨l', h1, hc⟩ := bindS hc
  split at hc
  · split at hc <;> cases hc
  · rename_i hd; cases hc; exact ⟨id, ops, by simp at hd; rw [hd], h1⟩
 all_goals (first | (cases hc; done) | skip)
 all_goals exfalso
 all_goals simp only [cCode] at hc
 all_goals repeat' (first | (rw [Option.bind_eq_some_iff] at hc; obtain ⟨_, _, hc⟩ := hc) | split at hc)
 all_goals cases hc
theorem AC.reg {l : List Ins} {Q : EX → Fr → Hp → Prop} {fr : Fr} {H : Hp} (h : RG P G r N l Q fr H) : AC P G r N (.reg l) Q fr H := by
 intro code hc
 obtain ⟨id, ops, rfl, h1⟩ := cCode_reg hc
 intro n base w Z a hr hf
 exact wpIn_region (h n base w Z a ops _ (cAll_range h1) hr hf)
theorem cCode_seq {code : Code} {x y : CC} (hc : cCode P N code = some (.seq x y)) : ∃ a b, code = .seq a b ∧ cCode P N a = some x ∧ cCode P N b = some y := by
 cases code
 case seq a b =>
  simp only [cCode] at hc
  obtain ⟨x', h1, hc⟩ := bindS hc
  obtain ⟨y', h2, hc⟩ := bindS hc
  cases hc
  exact ⟨a, b, rfl, h1, h2⟩
 all_goals (first | (cases hc; done) | skip)
 all_goals exfalso
 all_goals simp only [cCode] at hc
 all_goals repeat' (first | (rw [Option.bind_eq_some_iff] at hc; obtain ⟨_, _, hc⟩ := hc) | split at hc)
 all_goals cases hc
theorem AC.seq {x y : CC} {Q : EX → Fr → Hp → Prop} {fr : Fr} {H : Hp} (h : AC P G r N x (Sq P G r N y Q) fr H) : AC P G r N (.seq x y) Q fr H := by
 intro code hc
 obtain ⟨a, b, rfl, h1, h2⟩ := cCode_seq hc
 refine AW.seq ((h a h1).mono fun e fr H hq => ?_)
 cases e with
 | normal => exact hq b h2
 | exit id => exact hq
 | ret => exact hq
 | panic d => exact hq
theorem cCode_cond {code : Code} {x : X} {c d : CC} (hc : cCode P N code = some (.cond x c d)) : ∃ y a b, code = .cond y a b ∧ x = cX y ∧ XOk N x = true ∧ cCode P N a = some c ∧ cCode P N b = some d := by
 cases code
 case cond y a b =>
  simp only [cCode] at hc
  split at hc
  · rename_i hx
    obtain ⟨x', h1, hc⟩ := bindS hc
    obtain ⟨y', h2, hc⟩ := bindS hc
    cases hc
    exact ⟨y, a, b, rfl, rfl, hx, h1, h2⟩
  · cases hc
 all_goals (first | (cases hc; done) | skip)
 all_goals exfalso
 all_goals simp only [cCode] at hc
 all_goals repeat' (first | (rw [Option.bind_eq_some_iff] at hc; obtain ⟨_, _, hc⟩ := hc) | split at hc)
 all_goals cases hc
theorem AC.cond {x : X} {c d : CC} {b : Bool} {Q : EX → Fr → Hp → Prop} {fr : Fr} {H : Hp} (hx : XV G fr x = .bool b) (h : AC P G r N (if b then c else d) Q fr H) : AC P G r N (.cond x c d) Q fr H := by
 intro code hc n base w Z a hr hf
 obtain ⟨y, p, q, rfl, rfl, hok, h1, h2⟩ := cCode_cond hc
 have hv := cX_sound hr hf hok
 rw [hx] at hv
 refine wpIn_cond hv.bool_inv ?_
 cases b with
 | true => exact h p h1 n base w Z a hr hf
 | false => exact h q h2 n base w Z a hr hf
theorem AC.cond_t {x : X} {c d : CC} {Q : EX → Fr → Hp → Prop} {fr : Fr} {H : Hp} (hx : XV G fr x = .bool true) (h : AC P G r N c Q fr H) : AC P G r N (.cond x c d) Q fr H := AC.cond hx h
theorem AC.cond_f {x : X} {c d : CC} {Q : EX → Fr → Hp → Prop} {fr : Fr} {H : Hp} (hx : XV G fr x = .bool false) (h : AC P G r N d Q fr H) : AC P G r N (.cond x c d) Q fr H := AC.cond hx h
theorem AC.cond_s {x : X} {c d : CC} {b : Bool} {Q : EX → Fr → Hp → Prop} {fr : Fr} {H : Hp} (hx : XV G fr x = .bool b) (ht : b = true → AC P G r N c Q fr H) (hf : b = false → AC P G r N d Q fr H) : AC P G r N (.cond x c d) Q fr H := by
 cases b with
 | true => exact AC.cond hx (ht rfl)
 | false => exact AC.cond hx (hf rfl)
theorem cCode_block {code : Code} {id : Nat} {c : CC} (hc : cCode P N code = some (.block id c)) : ∃ a, code = .block id a ∧ cCode P N a = some c := by
 cases code
 case block id' a =>
  simp only [cCode] at hc
  obtain ⟨x', h1, hc⟩ := bindS hc
  cases hc
  exact ⟨a, rfl, h1⟩
 all_goals (first | (cases hc; done) | skip)
 all_goals exfalso
 all_goals simp only [cCode] at hc
 all_goals repeat' (first | (rw [Option.bind_eq_some_iff] at hc; obtain ⟨_, _, hc⟩ := hc) | split at hc)
 all_goals cases hc
theorem AC.block {id : Nat} {c : CC} {Q : EX → Fr → Hp → Prop} {fr : Fr} {H : Hp} (h : AC P G r N c (Bk id Q) fr H) : AC P G r N (.block id c) Q fr H := by
 intro code hc
 obtain ⟨a, rfl, h1⟩ := cCode_block hc
 exact AW.block (h a h1)
theorem cCode_loop {code : Code} {c : CC} (hc : cCode P N code = some (.loop c)) : ∃ a, code = .loop a ∧ cCode P N a = some c := by
 cases code
 case loop a =>
  simp only [cCode] at hc
  obtain ⟨x', h1, hc⟩ := bindS hc
  cases hc
  exact ⟨a, rfl, h1⟩
 all_goals (first | (cases hc; done) | skip)
 all_goals exfalso
 all_goals simp only [cCode] at hc
 all_goals repeat' (first | (rw [Option.bind_eq_some_iff] at hc; obtain ⟨_, _, hc⟩ := hc) | split at hc)
 all_goals cases hc
theorem AC.loop {c : CC} {Q : EX → Fr → Hp → Prop} {fr : Fr} {H : Hp} (h : AC P G r N c (Sq P G r N (.loop c) Q) fr H) : AC P G r N (.loop c) Q fr H := by
 intro code hc
 obtain ⟨a, rfl, h1⟩ := cCode_loop hc
 refine AW.loop ((h a h1).mono fun e fr H hq => ?_)
 cases e with
 | normal => exact hq _ hc
 | exit id => exact hq
 | ret => exact hq
 | panic d => exact hq
theorem AC.exit {id : Nat} {Q : EX → Fr → Hp → Prop} {fr : Fr} {H : Hp} (h : Q (.exit id) fr H) : AC P G r N (.exit id) Q fr H := by
 intro code hc
 cases code
 case exit i => cases hc; exact AW.exit h
 all_goals (first | (cases hc; done) | skip)
 all_goals exfalso
 all_goals simp only [cCode] at hc
 all_goals repeat' (first | (rw [Option.bind_eq_some_iff] at hc; obtain ⟨_, _, hc⟩ := hc) | split at hc)
 all_goals cases hc
theorem AC.scp {c : CC} {Q : EX → Fr → Hp → Prop} {fr : Fr} {H : Hp} (h : AC P G r N c Q fr H) : AC P G r N (.scp c) Q fr H := by
 intro code hc
 cases code
 case scope a =>
  simp only [cCode] at hc
  obtain ⟨x', h1, hc⟩ := bindS hc
  cases hc
  exact AW.scope (h a h1)
 all_goals (first | (cases hc; done) | skip)
 all_goals exfalso
 all_goals simp only [cCode] at hc
 all_goals repeat' (first | (rw [Option.bind_eq_some_iff] at hc; obtain ⟨_, _, hc⟩ := hc) | split at hc)
 all_goals cases hc
theorem AC.ret {Q : EX → Fr → Hp → Prop} {fr : Fr} {H : Hp} (h : Q .ret fr H) : AC P G r N .ret Q fr H := by
 intro code hc
 cases code
 case ret => exact AW.ret h
 all_goals (first | (cases hc; done) | skip)
 all_goals exfalso
 all_goals simp only [cCode] at hc
 all_goals repeat' (first | (rw [Option.bind_eq_some_iff] at hc; obtain ⟨_, _, hc⟩ := hc) | split at hc)
 all_goals cases hc
theorem RG.nilS {c : CC} {Q : EX → Fr → Hp → Prop} {fr : Fr} {H : Hp} (h : AC P G r N c Q fr H) : RG P G r N [] (Sq P G r N c Q) fr H := RG.nil h
theorem RG.st {dst : Option Nat} {op : OP} {l : List Ins} {Q : EX → Fr → Hp → Prop} {fr : Fr} {H : Hp} (h : ST P G r N op dst (RG P G r N l Q) Q fr H) : RG P G r N (⟨dst, none, op⟩ :: l) Q fr H := RG.step (.inl rfl) h
theorem RG.keep {l : List Ins} {Q : EX → Fr → Hp → Prop} {fr fr' : Fr} {H : Hp} (h : ∀ t, fr' t = fr t ∨ fr' t = .junk) (k : RG P G r N l Q fr' H) : RG P G r N l Q fr H :=
 fun n base w Z a ops is hl hr hf => k n base w Z a ops is hl hr (hf.weak h)
theorem AC.weak {c : CC} {Q : EX → Fr → Hp → Prop} {fr fr' : Fr} {H : Hp} (h : ∀ t, fr' t = fr t ∨ fr' t = .junk) (k : AC P G r N c Q fr' H) : AC P G r N c Q fr H :=
 fun code hc n base w Z a hr hf => k code hc n base w Z a hr (hf.weak h)
theorem ldD_addr {w : World} {H : Hp} {Z : Zn} {agg : Bool} {sz : Nat} {x : Value} {dx d : DV} (h : ldD H agg sz dx = some d) (hx : VR w H Z x dx) : ∃ a, x = .pointer (some a) := by
 unfold ldD at h
 split at h
 · exact ⟨_, hx.ptr_inv⟩
 · obtain ⟨a, _, e, _⟩ := hx.cptr_inv; exact ⟨a, e⟩
 · cases h
theorem evRes_sound {w : World} {H : Hp} {Z : Zn} {tmps : Array Value} {fr : Fr} (hr : HR G w H Z) (hf : ∀ t, t < N → VR w H Z (tmps.getD t undef) (fr t)) : ∀ (l : List ResultVar) (rs : List RV) (ds : List DV), cRes P N l = some rs → evRes H fr rs = some ds →
  ∃ vs : List Value, (l.mapM (fun | .tmp t => pure (tmps.getD t undef) | .cell a t => do loadVar t (← asAddr (tmps.getD a undef)) : ResultVar → Sem Value)).run P w = .ok vs w ∧ vs.length = ds.length ∧
   ∀ (j : Nat) (v : Value) (d : DV), vs[j]? = some v → ds[j]? = some d → VR w H Z v d
 | [], rs, ds, hc, he => by cases hc; cases he; exact ⟨[], rfl, rfl, fun j v d h => by simp at h⟩
 | .tmp t :: l, rs, ds, hc, he => by
   simp only [cRes] at hc
   split at hc <;> first | (cases hc; done) | skip
   rename_i ht
   obtain ⟨r', h1, hc⟩ := bindS hc
   cases hc
   simp only [evRes] at he
   obtain ⟨ds', h2, he⟩ := bindS he
   cases he
   obtain ⟨vs, k1, k2, k3⟩ := evRes_sound hr hf l r' ds' h1 h2
   refine ⟨tmps.getD t undef :: vs, ?_, by simp [k2], fun j v d hj hd => ?_⟩
   · rw [List.mapM_cons]; simp only [Sem.run_bind, Sem.run_pure, Result.andThen_ok, k1]
   · rcases j with _ | j
     · simp only [List.getElem?_cons_zero, Option.some.injEq] at hj hd; subst hj; subst hd; exact hf t ht
     · exact k3 j v d (by simpa using hj) (by simpa using hd)
 | .cell t ty :: l, rs, ds, hc, he => by
   simp only [cRes] at hc
   split at hc <;> first | (cases hc; done) | skip
   rename_i ht
   obtain ⟨i, hi, hc⟩ := bindS hc
   obtain ⟨d0, hu, hc⟩ := bindS hc
   obtain ⟨r', h1, hc⟩ := bindS hc
   cases hc
   simp only [evRes] at he
   obtain ⟨d, hd0, he⟩ := bindS he
   obtain ⟨ds', h2, he⟩ := bindS he
   cases he
   obtain ⟨vs, k1, k2, k3⟩ := evRes_sound hr hf l r' ds' h1 h2
   have hv := hf t ht
   obtain ⟨v, g1, g2⟩ := ldD_sound (P := P) hr hu hi hd0 hv
   obtain ⟨a, ha⟩ := ldD_addr hd0 hv
   have g1' : (loadVar ty a).run P w = .ok v w := by
    rw [ha] at g1
    simpa only [Instr.loadAt, Instr.sureAddr, Sem.run_bind, Sem.run_pure, Result.andThen_ok] using g1
   refine ⟨v :: vs, ?_, by simp [k2], fun j u d hj hd => ?_⟩
   · rw [List.mapM_cons]
     have e1 : (asAddr (tmps.getD t undef)).run P w = .ok a w := by rw [ha]; rfl
     simp only [Sem.run_bind, Sem.run_pure, Result.andThen_ok, e1, g1', k1]
   · rcases j with _ | j
     · simp only [List.getElem?_cons_zero, Option.some.injEq] at hj hd; subst hj; subst hd; exact g2
     · exact k3 j u d (by simpa using hj) (by simpa using hd)
theorem results_sound {w : World} {H : Hp} {Z : Zn} {tmps : Array Value} {fr : Fr} {fn : Func} {rs : List RV} {ds : List DV} (hr : HR G w H Z) (hf : ∀ t, t < N → VR w H Z (tmps.getD t undef) (fr t))
  (hc : cRes P N fn.results.toList = some rs) (he : evRes H fr rs = some ds) : ∃ v, (results fn tmps).run P w = .ok v w ∧ VR w H Z v (tupD ds) := by
 obtain ⟨vs, k1, k2, k3⟩ := evRes_sound hr hf _ _ _ hc he
 have hm : (fn.results.mapM (fun | .tmp t => pure (tmps.getD t undef) | .cell a t => do loadVar t (← asAddr (tmps.getD a undef)) : ResultVar → Sem Value)).run P w = .ok vs.toArray w := by
  rw [Array.mapM_eq_mapM_toList]
  simp only [Sem.run_map, k1, Result.andThen_ok]
 refine ⟨if h : vs.toArray.size = 1 then vs.toArray[0] else .tuple vs.toArray, ?_, ?_⟩
 · unfold results
   rw [Sem.run_bind]
   exact congrArg (fun r => Result.andThen r _) hm
 · match vs, ds, k2, k3 with
   | [], [], _, _ => exact .tup _ _ rfl (fun j v d h => by simp at h)
   | [v], [d], _, k3 => exact k3 0 v d rfl rfl
   | v :: v' :: vs, d :: d' :: ds, k2, k3 =>
     have e : (if h : (v :: v' :: vs).toArray.size = 1 then (v :: v' :: vs).toArray[0] else Value.tuple (v :: v' :: vs).toArray) = .tuple (v :: v' :: vs).toArray := by simp
     rw [e]
     exact .tup _ _ (by simpa using k2) (fun j u e h1 h2 => k3 j u e (by simpa using h1) h2)
theorem leavesM {w0 : World} {fn : Func} {tmps : Array Value} {R : Ending → World → Prop} {He : Hp} {Ze : Zn} {n : Nat} {u : FrameMode} (hu : u ≠ .run) (I : World → Prop)
  (hI : ∀ (w' : World) (b : Nat), I w' → w0.heap.size ≤ b → b < w'.heap.size → ¬ Ze b → He b = none → w'.heap[b]? = some (.deferred (some [])) → I { w' with heap := w'.heap.setIfInBounds b (.deferred none) })
  (hend : ∀ w', I w' → LeavesInM (Wd none) n P fn tmps R [] u w') : ∀ (ds : List Deferred) (w' : World), I w' → Marks w' He Ze w0.heap.size ds → LeavesInM (Wd none) n P fn tmps R ds u w'
 | [], w', hi, _ => hend w' hi
 | d :: ds, w', hi, hm => by
   obtain ⟨b, e, h0, h1, h2, h3, h4⟩ := hm.1 d (by simp)
   refine ⟨hu, .inl ⟨b, { w' with heap := w'.heap.setIfInBounds b (.deferred none) }, e, run_takeDeferred h4, ?_⟩⟩
   refine leavesM hu I hI hend ds _ (hI w' b hi h0 h1 h2 h3 h4) ⟨fun d' hd' => ?_, (List.nodup_cons.1 hm.2).2⟩
   obtain ⟨b', e', g0, g1, g2, g3, g4⟩ := hm.1 d' (by simp [hd'])
   have hne : b ≠ b' := by
    intro heq
    have hnd := (List.nodup_cons.1 hm.2).1
    apply hnd
    rw [List.mem_map]
    exact ⟨d', hd', by simp only [e, e', heq]⟩
   exact ⟨b', e', g0, by simpa using g1, g2, g3, by simp [Array.getElem?_setIfInBounds, hne, g4]⟩
theorem private_set {w0 w : World} {H0 H : Hp} {Z0 Z : Zn} (hr : HR G w H Z) (hx : Ext w0 H0 Z0 w H Z) {b : Nat} (hb : w0.heap.size ≤ b) (hz : ¬ Z b) (hh : H b = none) (o : Obj) :
  HR G { w with heap := w.heap.setIfInBounds b o } H Z ∧ Ext w0 H0 Z0 { w with heap := w.heap.setIfInBounds b o } H Z ∧ (∀ v d, VR w H Z v d → VR { w with heap := w.heap.setIfInBounds b o } H Z v d) := by
 have hne : ∀ k, k ≠ b → ({ w with heap := w.heap.setIfInBounds b o } : World).heap[k]? = w.heap[k]? := fun k hk => by simp [Ne.symm hk]
 -- what is told does not speak of b
 have hloc : ∀ v d, VR w H Z v d → VR { w with heap := w.heap.setIfInBounds b o } H Z v d := by
  have hcell : ∀ {c i : Nat} {v : Value}, Safe H Z c i → w.cell? ⟨c, i, none⟩ = some v → ({ w with heap := w.heap.setIfInBounds b o } : World).cell? ⟨c, i, none⟩ = some v := by
   intro c i v hs hc
   have : c ≠ b := by
    rintro rfl
    rcases hs with hs | ⟨f, sz, ty, hs, _⟩
    · exact hz hs
    · rw [hh] at hs; cases hs
   exact (World.cell?_of_block (a := ⟨c, i, none⟩) (hne c this)).trans hc
  intro v d hv
  induction hv with
  | junk v => exact .junk v
  | bool b => exact .bool b
  | int k n => exact .int k n
  | str s l e => exact .str s l e
  | ptr b off => exact .ptr b off
  | nilp => exact .nilp
  | cptr a cs vs h1 hc ho _ ih => exact .cptr a cs vs h1 (fun j hj => ⟨hcell (hc j hj).2 (hc j hj).1, (hc j hj).2⟩) ho ih
  | lst A n c sz cs tag vs h1 h2 hc ho _ ht ih =>
    refine .lst A n c sz cs tag vs h1 h2 (fun j hj => ?_) ho ih (fun b' off e => ?_)
    · obtain ⟨a, e1, e2, c1, c2⟩ := hc j hj
      exact ⟨a, e1, e2, hcell c2 c1, c2⟩
    · obtain ⟨t1, t2⟩ := ht b' off e
      refine ⟨by simpa using t1, fun f sz' ty hf => ?_⟩
      obtain ⟨u1, u2⟩ := t2 f sz' ty hf
      refine ⟨u1, fun e => ?_⟩
      obtain ⟨v1, v2, arr, fz, v3, v4⟩ := u2 e
      have : b' ≠ b := by rintro rfl; rw [hh] at hf; cases hf
      exact ⟨v1, v2, arr, fz, (hne b' this).trans v3, v4⟩
  | nils => exact .nils
  | zc A => exact .zc A
  | win b off n cap h => exact .win b off n cap h
  | func fn first cap df dc e1 e2 _ _ ih1 ih2 => exact .func fn first cap df dc e1 e2 ih1 ih2
  | nilfn => exact .nilfn
  | iface t v d _ ih => exact .iface t v d ih
  | nilif => exact .nilif
  | agg vs cs e ho _ ih => exact .agg vs cs e ho ih
  | tup vs cs e _ ih => exact .tup vs cs e ih
  | mapr b => exact .mapr b
  | nilmap => exact .nilmap
 have hkb : ∀ k o', H k = some o' → k ≠ b := fun k o' e h => by subst h; rw [hh] at e; cases e
 refine ⟨?_, ?_, hloc⟩
 refine ⟨fun k o' e => ⟨by simpa using (hr.dom k o' e).1, (hr.dom k o' e).2⟩, fun k hk => by simpa using hr.zlt k hk, fun k o' e => ?_, fun g cs e => hloc _ _ (hr.glob g cs e)⟩
 · have hob := hr.obj k o' e
   have hk := hne k (hkb k o' e)
   cases o' with
   | cells cs ty =>
     obtain ⟨arr, fz, h1, h2, h3, h4, h5⟩ := hob
     exact ⟨arr, fz, hk.trans h1, h2, h3, h4, fun j v d e1 e2 => hloc _ _ (h5 j v d e1 e2)⟩
   | front f sz ty =>
     obtain ⟨arr, fz, cap, h1, h2⟩ := hob
     exact ⟨arr, fz, cap, hk.trans h1, h2⟩
   | mapo es =>
     obtain ⟨ms, cl, h1, h2, h3⟩ := hob
     exact ⟨ms, cl, hk.trans h1, h2, fun j m e e1 e2 => ⟨hloc _ _ (h3 j m e e1 e2).1, hloc _ _ (h3 j m e e1 e2).2⟩⟩
   | raw o => exact ⟨hk.trans hob.1, hob.2⟩
   | loop N ps as bd fr st pend =>
     obtain ⟨L, h1, h2, h3, h4, h5, h6, h7, h8⟩ := hob
     exact ⟨L, hk.trans h1, h2, h3, h4, h5, h6, h7, fun t ht => hloc _ _ (h8 t ht)⟩
 · exact {
    size := by simpa using hx.size
    os := hx.os
    tape := hx.tape
    output := hx.output
    imm := fun k hk => by
     obtain ⟨h1, h2, h3⟩ := hx.imm k hk
     exact ⟨h1, h2, (hne k (fun e => hz (e ▸ h1))).trans h3⟩
    priv := fun k hk h1 h2 => by
     obtain ⟨g1, g2, g3⟩ := hx.priv k hk h1 h2
     exact ⟨g1, g2, (hne k (by omega)).trans g3⟩
    frt := hx.frt
    pre := fun k f sz ty hk => by
     obtain ⟨g1, g2⟩ := hx.pre k f sz ty hk
     refine ⟨g1, fun arr fz ha => ?_⟩
     obtain ⟨arr', fz', e1, e2, e3⟩ := g2 arr fz ha
     have : k ≠ b := by
      rintro rfl
      rcases g1 with g1 | ⟨f', _, g1⟩
      · exact hz g1
      · rw [hh] at g1; cases g1
     exact ⟨arr', fz', (hne k this).trans e1, e2, e3⟩ }
theorem cFn_sound {f : FuncId} {F : FN} (h : cFn P f = some F) : ∃ fn c, P.funcs[f]? = some fn ∧ fn.body = some c ∧ (fn.name == "runtime.NumGoroutine") = false ∧ cCode P F.N c = some F.c ∧ cRes P F.N fn.results.toList = some F.rs ∧ fn.ntmps = F.N := by
 unfold cFn at h
 obtain ⟨fn, h1, h⟩ := bindS h
 obtain ⟨c, h2, h⟩ := bindS h
 split at h
 · cases h
 · rename_i hn
   obtain ⟨cc, h3, h⟩ := bindS h
   obtain ⟨rs, h4, h⟩ := bindS h
   cases h
   exact ⟨fn, c, h1, h2, by simpa using hn, h3, h4, rfl⟩
theorem CALL.of {f : FuncId} {F : FN} {ds : List DV} {H : Hp} {Kr Kp : DV → Hp → Prop} (hf : cFn P f = some F) (hl : ds.length ≤ F.N) (h : AC P G none F.N F.c (Fin F.rs Kr Kp) (argFr ds) H) : CALL P G f ds H Kr Kp := by
 obtain ⟨fn, c, h1, h2, h3, h4, h5, h6⟩ := cFn_sound hf
 refine ⟨⟨fn, h1, by simp [h2], h3⟩, fun w Z vs hr hs hv => ?_⟩
 refine (callsIn_wide (n := 0)).1 (callsIn_of_wp_marks (F := Fence.wide) h1 h2 trivial ?_ rfl)
 have hfr : FR w H Z (w.heap.size, []) F.N { tmps := vs ++ Array.replicate (fn.ntmps - vs.size) undef, defers := [] } (argFr ds) := by
  refine ⟨by simp; omega, fun t ht => ?_, MarksB.nil, Nat.le_refl _⟩
  unfold argFr
  cases e : ds[t]? with
  | none => exact .junk _
  | some d =>
    have hlt : t < vs.size := by rw [hs]; exact (List.getElem?_eq_some_iff.1 e).1
    have hg : (vs ++ Array.replicate (fn.ntmps - vs.size) undef).getD t undef = vs[t] := by
     simp [Array.getD, hlt, Array.getElem_append]
     intro h; omega
    show VR w H Z ((vs ++ Array.replicate (fn.ntmps - vs.size) undef).getD t undef) d
    rw [hg]
    exact hv t _ d (Array.getElem?_eq_getElem hlt) e
 refine wpIn_mono (h c h4 0 (w.heap.size, []) w Z _ hr hfr) fun e a' w' hp => ?_
 obtain ⟨ex, fr', He, Ze, q, k1, k2, k3, k4⟩ := hp
 have hmk : Marks w' He Ze w.heap.size a'.defers := by
  obtain ⟨ms, e, m⟩ := k3.marks
  rw [List.append_nil] at e
  rw [e]; exact m
 have fin : (∃ l d H', evRes He fr' F.rs = some l ∧ Cv He H' (tupD l) d ∧ Kr d H') → LeavesInM Fence.wide 0 P fn a'.tmps (CPost G Kr Kp w H Z) a'.defers .returning w' := by
  rintro ⟨l, d, H', q1, q2, q4⟩
  refine leavesM (w0 := w) (He := He) (Ze := Ze) (by simp) (fun w'' => HR G w'' He Ze ∧ Ext w H Z w'' He Ze ∧ FR w'' He Ze (w.heap.size, []) F.N { tmps := a'.tmps, defers := [] } fr') ?_ ?_ a'.defers w' ⟨k2, k4, k3.size, k3.vals, MarksB.nil, k3.low⟩ hmk
  · rintro w'' b ⟨g1, g2, g3⟩ b1 b2 b3 b4 b5
    obtain ⟨m1, m2, m4⟩ := private_set g1 g2 b1 b3 b4 (.deferred none)
    exact ⟨m1, m2, g3.size, fun t ht => m4 _ _ (g3.vals t ht), MarksB.nil, by simpa using g3.low⟩
  · rintro w'' ⟨g1, g2, g3⟩
    obtain ⟨v, m1, m2⟩ := results_sound (P := P) (fn := fn) g1 g3.vals h5 q1
    obtain ⟨Z', c1, c2, c3⟩ := q2 _ _ _ g1
    exact ⟨v, m1, d, H', Z', q4, c3 v m2, c1, g2.trans c2⟩
 cases e <;> cases ex <;> try exact k1.elim
 · exact fin q
 · exact q.elim
 · exact fin q
 · rename_i ch d
   obtain ⟨v, rfl, hvd⟩ := k1
   obtain ⟨H', q1, q2⟩ := q
   refine leavesM (w0 := w) (He := He) (Ze := Ze) (by simp) (fun w'' => HR G w'' He Ze ∧ Ext w H Z w'' He Ze ∧ VR w'' He Ze v d) ?_ ?_ a'.defers w' ⟨k2, k4, hvd⟩ hmk
   · rintro w'' b ⟨g1, g2, g3⟩ b1 b2 b3 b4 b5
     obtain ⟨m1, m2, m4⟩ := private_set g1 g2 b1 b3 b4 (.deferred none)
     exact ⟨m1, m2, m4 _ _ g3⟩
   · rintro w'' ⟨g1, g2, g3⟩
     exact ⟨v, d, H', _, rfl, q2, g3.drop q1, g1.drop q1, g2.drop q1⟩
end
def Lin (n : Nat) (dep : Nat → List Nat) : List Nat → List Nat → Prop
 | R, [] => ∀ i, i < n → i ∈ R
 | R, j :: π => j < n ∧ j ∉ R ∧ (∀ d ∈ dep j, d ∈ R) ∧ Lin n dep (j :: R) π
def depO (ops : Array Oper) (i : Nat) : List Nat := ((ops[i]?).map depsOf).getD []
theorem edgesBack_spec : ∀ (os : List Oper) (k i : Nat) (o : Oper), edgesBack os k = true → os[i]? = some o → ∀ e ∈ o.after, Region.binds .any e = true → e.on < k + i
 | [], k, i, o, h, ho => by simp at ho
 | o' :: os, k, i, o, h, ho => by
   simp only [edgesBack, Bool.and_eq_true] at h
   intro e he hbd
   cases i with
   | zero =>
     simp only [List.getElem?_cons_zero, Option.some.injEq] at ho
     subst ho
     have := List.all_eq_true.1 h.1 e (by simpa using he)
     rw [hbd] at this
     simpa [Nat.blt_eq] using this
   | succ i =>
     have := edgesBack_spec os (k + 1) i o h.2 (by simpa using ho) e he hbd
     omega
def unl (listed : Array Bool) (n : Nat) : Nat := ((List.range n).filter fun i => !listed.getD i true).length
theorem unl_set {listed : Array Bool} {n i : Nat} (hs : listed.size = n) (hi : i < n) (h : listed.getD i true = false) : unl (listed.setIfInBounds i true) n + 1 = unl listed n := by
 unfold unl
 have : ∀ (l : List Nat), l.Nodup → i ∈ l → (l.filter fun j => !(listed.setIfInBounds i true).getD j true).length + 1 = (l.filter fun j => !listed.getD j true).length := by
  intro l
  induction l with
  | nil => intro _ h; simp at h
  | cons x xs ih =>
    intro hnd hm
    rw [List.nodup_cons] at hnd
    by_cases hx : x = i
    · subst hx
      have hrest : (xs.filter fun j => !(listed.setIfInBounds x true).getD j true) = xs.filter fun j => !listed.getD j true := by
       apply List.filter_congr
       intro j hj
       have : x ≠ j := fun e => hnd.1 (e ▸ hj)
       simp only [Array.getD_eq_getD_getElem?, Array.getElem?_setIfInBounds, this, if_false]
      have e1 : (!(listed.setIfInBounds x true).getD x true) = false := by
       simp [Array.getD_eq_getD_getElem?, Array.getElem?_setIfInBounds, hs, hi]
      rw [List.filter_cons, List.filter_cons, hrest]
      simp [e1, h]
    · have hm' : i ∈ xs := by simpa [Ne.symm hx] using hm
      have e1 : (listed.setIfInBounds i true).getD x true = listed.getD x true := by
       simp only [Array.getD_eq_getD_getElem?, Array.getElem?_setIfInBounds, Ne.symm hx, if_false]
      rw [List.filter_cons, List.filter_cons, e1]
      have := ih hnd.2 hm'
      split
      · simp only [List.length_cons]; omega
      · exact this
 exact this _ List.nodup_range (by simpa using hi)
theorem lin_go {ops : Array Oper} (hb : ∀ (i : Nat) (o : Oper), ops[i]? = some o → ∀ e ∈ o.after, Region.binds .any e = true → e.on < i) : ∀ (fuel t : Nat) (listed : Array Bool) (R : List Nat),
  listed.size = ops.size → (∀ i, i < ops.size → (listed.getD i true = true ↔ i ∈ R)) → unl listed ops.size ≤ fuel → Lin ops.size (depO ops) R (Region.linearise.go .any ops fuel t listed []) := by
 intro fuel
 induction fuel with
 | zero =>
   intro t listed R hs hR hu
   simp only [Region.linearise.go, List.reverse_nil]
   intro i hi
   rw [← hR i hi]
   have h0 : (List.range ops.size).filter (fun i => !listed.getD i true) = [] := by
    apply List.length_eq_zero_iff.1; unfold unl at hu; omega
   have := (List.filter_eq_nil_iff.1 h0) i (by simpa using hi)
   simpa using this
 | succ fuel ih =>
   intro t listed R hs hR hu
   simp only [Region.linearise.go]
   generalize hrs : ((List.range ops.size).filter fun i => !listed.getD i true && ((ops[i]?).map (·.after.all fun e => !Region.binds .any e || listed.getD e.on false)).getD false) = rs
   cases hi : rs[t % rs.length]? with
   | none =>
     have hnil : rs = [] := by
      cases rs with
      | nil => rfl
      | cons x xs =>
        have hlt : t % (x :: xs).length < (x :: xs).length := Nat.mod_lt _ (by simp)
        simp at hi
        simp at hlt
        omega
     simp only [List.reverse_nil]
     intro i
     induction i using Nat.strongRecOn with
     | _ i ihi =>
       intro hlt
       by_cases hm : i ∈ R
       · exact hm
       · exfalso
         rw [hnil] at hrs
         have := (List.filter_eq_nil_iff.1 hrs) i (by simpa using hlt)
         apply this
         have hl : listed.getD i true = false := by
          cases e : listed.getD i true with
          | false => rfl
          | true => exact absurd ((hR i hlt).1 e) hm
         rw [hl]
         have ho : ops[i]? = some ops[i] := Array.getElem?_eq_getElem hlt
         rw [ho]
         simp only [Bool.not_false, Bool.true_and, Option.map_some, Option.getD_some]
         rw [Array.all_eq_true_iff_forall_mem]
         intro e he
         cases hbe : Region.binds .any e with
         | false => rfl
         | true =>
         have hlt' := hb i _ ho e he hbe
         have hin := ihi e.on hlt' (by omega)
         have hl' := (hR e.on (by omega)).2 hin
         have : listed.getD e.on false = true := by
          have hs' : e.on < listed.size := by omega
          simp only [Array.getD, hs', dif_pos] at hl' ⊢
          exact hl'
         simp [this]
   | some i =>
     simp only []
     rw [linearise_go_acc, List.reverse_singleton, List.singleton_append]
     have hmem : i ∈ rs := List.mem_of_getElem? hi
     rw [← hrs, List.mem_filter] at hmem
     obtain ⟨h1, h2⟩ := hmem
     have hlt : i < ops.size := by simpa using h1
     simp only [Bool.and_eq_true, Bool.not_eq_true'] at h2
     have ho : ops[i]? = some ops[i] := Array.getElem?_eq_getElem hlt
     refine ⟨hlt, fun hm => ?_, ?_, ?_⟩
     · rw [(hR i hlt).2 hm] at h2; exact absurd h2.1 (by simp)
     · intro d hd
       unfold depO at hd
       rw [ho] at hd
       simp only [Option.map_some, Option.getD_some, depsOf, List.mem_map, List.mem_filter] at hd
       obtain ⟨e, ⟨he, hbd⟩, rfl⟩ := hd
       have h3 := h2.2
       rw [ho] at h3
       simp only [Option.map_some, Option.getD_some, Array.all_eq_true_iff_forall_mem] at h3
       have h4 := h3 e (by simpa using he)
       have hbm : Region.binds .any e = true := hbd
       have hlt' := hb i _ ho e (by simpa using he) hbm
       rw [← hR e.on (by omega)]
       have hs' : e.on < listed.size := by omega
       have h5 : listed.getD e.on false = true := by simpa [hbm] using h4
       simp only [Array.getD, hs', dif_pos] at h5 ⊢
       exact h5
     · refine ih _ _ (i :: R) (by simpa using hs) (fun j hj => ?_) ?_
       · by_cases hji : j = i
         · subst hji
           simp [Array.getD_eq_getD_getElem?, Array.getElem?_setIfInBounds, hs, hj]
         · have e1 : (listed.setIfInBounds i true).getD j true = listed.getD j true := by
            simp only [Array.getD_eq_getD_getElem?, Array.getElem?_setIfInBounds, Ne.symm hji, if_false]
           rw [e1, hR j hj]; simp [hji]
       · have := unl_set hs hlt h2.1
         omega
theorem lin_schedule {ops : Array Oper} {mixed : Bool} (hm : mixed = true) (hb : edgesBack ops.toList 0 = true) (t : Nat) : Lin ops.size (depO ops) [] (Region.schedule mixed ops t) := by
 have hb' : ∀ (i : Nat) (o : Oper), ops[i]? = some o → ∀ e ∈ o.after, Region.binds .any e = true → e.on < i := fun i o ho e he hbd => by
  have := edgesBack_spec ops.toList 0 i o hb (by rw [Array.getElem?_toList]; exact ho) e he hbd
  omega
 have key : ∀ t, Lin ops.size (depO ops) [] (Region.linearise .any ops t) := fun t => by
  refine lin_go hb' _ _ _ _ (by simp) (fun i hi => ?_) ?_
  · simp [Array.getD_eq_getD_getElem?, hi]
  · unfold unl
    exact Nat.le_trans (List.length_filter_le _ _) (by simp)
 unfold Region.schedule
 subst hm
 simp only [Bool.true_or, if_true]
 exact key _
section
variable {P : Program} {G : Gl} {r : Option Nat} {N : Nat}
theorem cCode_draw {code : Code} {l : List Ins} {aft : List (List Nat)} (hc : cCode P N code = some (.draw l aft)) : ∃ id ops, code = .region id ops true ∧ cAll P N ops ops.toList = some l ∧ P.follows .mixedOrders = true ∧ edgesBack ops.toList 0 = true ∧ aft = ops.toList.map depsOf := by
 cases code
 case region id ops d =>
  simp only [cCode] at hc
  obtain ⟨l', h1, hc⟩ := bindS hc
  split at hc
  · rename_i hd
    split at hc
    · rename_i he; cases hc; rw [Bool.and_eq_true] at he; exact ⟨id, ops, by rw [hd], h1, he.1, he.2, rfl⟩
    · cases hc
  · cases hc
 all_goals (first | (cases hc; done) | skip)
 all_goals exfalso
 all_goals simp only [cCode] at hc
 all_goals repeat' (first | (rw [Option.bind_eq_some_iff] at hc; obtain ⟨_, _, hc⟩ := hc) | split at hc)
 all_goals cases hc
def depL (aft : List (List Nat)) (i : Nat) : List Nat := (aft[i]?).getD []
theorem AC.draw {l : List Ins} {aft : List (List Nat)} {Q : EX → Fr → Hp → Prop} {fr : Fr} {H : Hp} (h : ∀ π, Lin l.length (depL aft) [] π → RG P G r N (π.filterMap (l[·]?)) Q fr H) : AC P G r N (.draw l aft) Q fr H := by
 intro code hc n base w Z a hr hf
 obtain ⟨id, ops, rfl, h1, hmix, h2, rfl⟩ := cCode_draw hc
 have hm := cAll_sound _ _ h1
 have hlen : ops.size = l.length := by simpa using congrArg List.length hm
 have hdep : depL (ops.toList.map depsOf) = depO ops := by
  funext i
  unfold depL depO
  rw [List.getElem?_map, Array.getElem?_toList]
 have hget : ∀ i : Nat, (ops[i]?).bind (cIns P N ops) = l[i]? := fun i => by
  have : (ops.toList.map (cIns P N ops))[i]? = (l.map some)[i]? := by rw [hm]
  simp only [List.getElem?_map, Array.getElem?_toList] at this
  cases e : ops[i]? with
  | none =>
    rw [e] at this
    cases e2 : l[i]? with
    | none => rfl
    | some x => rw [e2] at this; cases this
  | some o =>
    rw [e] at this
    cases e2 : l[i]? with
    | none => rw [e2] at this; cases this
    | some x =>
      rw [e2] at this
      simpa using this
 refine wpIn_region_draw fun t => ?_
 have hlin := lin_schedule (mixed := P.follows .mixedOrders) hmix h2 t
 rw [hlen] at hlin
 rw [hdep] at h
 have hlt : ∀ (π R : List Nat), Lin l.length (depO ops) R π → ∀ i ∈ π, i < l.length := by
  intro π
  induction π with
  | nil => intro R _ i hi; simp at hi
  | cons j π ih =>
    intro R hl i hi
    rcases List.mem_cons.1 hi with rfl | hi
    · exact hl.1
    · exact ih _ hl.2.2.2 i hi
 have hmap : ∀ π : List Nat, (∀ i ∈ π, i < l.length) → π.map (fun i => (ops[i]?).bind (cIns P N ops)) = (π.filterMap (l[·]?)).map some := by
  intro π
  induction π with
  | nil => intro _; rfl
  | cons j π ih =>
    intro hh
    have hj := hh j (by simp)
    rw [List.map_cons, ih (fun i hi => hh i (by simp [hi])), hget j]
    rw [List.filterMap_cons, List.getElem?_eq_getElem hj, List.map_cons]
 have hx : Ext w H Z { w with drawn := w.drawn + 1 } H Z := { Ext.refl hr with size := Nat.le_refl _, os := rfl, tape := rfl, output := rfl }
 have hr' : HR G { w with drawn := w.drawn + 1 } H Z := hr.of_ext hx fun _ _ _ => rfl
 exact wpOpsIn_mono (fun _ _ _ hp => hp.before hx) _ _ _ (h _ hlin n base _ Z a ops _ (hmap _ (hlt _ _ hlin)) hr' (hf.ext hr hx))
end
def slotX : X → List Nat
 | .t n => [n]
 | _ => []
def slotsI (i : Ins) : List Nat := ((opX i.op).flatMap slotX) ++ (match i.g with | some (t, _) => [t] | none => [])
section
variable {P : Program} {G : Gl} {r : Option Nat} {N : Nat}
theorem XV_congr {fr fr' : Fr} {x : X} (h : ∀ t ∈ slotX x, fr t = fr' t) : XV G fr x = XV G fr' x := by
 cases x with
 | t n => exact h n (by simp [slotX])
 | c d => rfl
 | g n => rfl
theorem mapXV_congr {fr fr' : Fr} : ∀ (l : List X), (∀ x ∈ l, XV G fr x = XV G fr' x) → l.map (XV G fr) = l.map (XV G fr')
 | [], _ => rfl
 | x :: l, h => by rw [List.map_cons, List.map_cons, h x (by simp), mapXV_congr l (fun y hy => h y (by simp [hy]))]
theorem optXV_congr {fr fr' : Fr} (l : Option X) (h : ∀ x ∈ l.toList, XV G fr x = XV G fr' x) : l.map (XV G fr) = l.map (XV G fr') := by
 cases l with
 | none => rfl
 | some x => simp only [Option.map_some]; rw [h x (by simp)]
theorem bldD_congr {f f' : X → DV} : ∀ (ps : List (Nat × Nat × X)) (z : List DV), (∀ p ∈ ps, f p.2.2 = f' p.2.2) → bldD f ps z = bldD f' ps z
 | [], z, _ => rfl
 | (a, b, x) :: ps, z, h => by
   have h1 := h (a, b, x) (by simp)
   simp only at h1
   have h2 := fun z' => bldD_congr (f := f) (f' := f') ps z' (fun p hp => h p (by simp [hp]))
   unfold bldD
   simp only [h1, h2]
theorem evP_congr {fr fr' : Fr} {H : Hp} {op : OP} (h : ∀ x ∈ opX op, XV G fr x = XV G fr' x) : evP G fr H op = evP G fr' H op := by
 cases op
 case mkfn fn f c =>
  simp only [opX, List.mem_append] at h
  simp only [evP, mapXV_congr f (fun x hx => h x (.inl hx)), mapXV_congr c (fun x hx => h x (.inr hx))]
 case bld z ps =>
  simp only [evP]
  rw [bldD_congr ps z (fun p hp => h p.2.2 (by simp only [opX]; exact List.mem_map.2 ⟨p, hp, rfl⟩))]
 case slcS x lo hi =>
  simp only [opX, List.mem_append, List.mem_singleton] at h
  simp only [evP, optXV_congr lo (fun y hy => h y (.inl (.inr hy))), optXV_congr hi (fun y hy => h y (.inr hy)), h x (.inl (.inl rfl))]
 case slcA n s x lo hi =>
  simp only [opX, List.mem_append, List.mem_singleton] at h
  simp only [evP, optXV_congr lo (fun y hy => h y (.inl (.inr hy))), optXV_congr hi (fun y hy => h y (.inr hy)), h x (.inl (.inl rfl))]
 case slc s x lo hi mx =>
  simp only [opX, List.mem_append, List.mem_singleton] at h
  simp only [evP, optXV_congr lo (fun y hy => h y (.inl (.inl (.inr hy)))), optXV_congr hi (fun y hy => h y (.inl (.inr hy))), optXV_congr mx (fun y hy => h y (.inr hy)), h x (.inl (.inl (.inl rfl)))]
 all_goals simp only [opX, List.mem_cons, List.not_mem_nil, or_false, forall_eq_or_imp, forall_eq] at h
 all_goals simp only [evP, h]
def evI (G : Gl) (fr : Fr) (H : Hp) (i : Ins) : Option DV :=
 match i.g with
 | none => evP G fr H i.op
 | some (t, b) => match fr t with
   | .bool x => if x = b then evP G fr H i.op else some (.tup [])
   | .tup _ => some (.tup [])
   | _ => none
theorem evI_congr {fr fr' : Fr} {H : Hp} {i : Ins} (h : ∀ t ∈ slotsI i, fr t = fr' t) : evI G fr H i = evI G fr' H i := by
 have h1 : evP G fr H i.op = evP G fr' H i.op := evP_congr fun x hx => XV_congr fun t ht => h t (by
  unfold slotsI; exact List.mem_append_left _ (List.mem_flatMap.2 ⟨x, hx, ht⟩))
 unfold evI
 cases hg : i.g with
 | none => exact h1
 | some p =>
   obtain ⟨t, b⟩ := p
   have h2 := h t (by unfold slotsI; rw [hg]; simp)
   simp only [h1, h2]
theorem RG.ev {i : Ins} {l : List Ins} {d : DV} {Q : EX → Fr → Hp → Prop} {fr : Fr} {H : Hp} (h : evI G fr H i = some d) (k : RG P G r N l Q (fr.put i.dst d) H) : RG P G r N (i :: l) Q fr H := by
 unfold evI at h
 cases hg : i.g with
 | none => rw [hg] at h; exact RG.step (.inl hg) (ST.pure h k)
 | some p =>
   obtain ⟨t, b⟩ := p
   rw [hg] at h
   simp only at h
   split at h
   · rename_i x hx
     split at h
     · rename_i e; subst e; exact RG.step (.inr ⟨t, x, hg, hx⟩) (ST.pure h k)
     · rename_i e
       cases h
       have : x = !b := by cases x <;> cases b <;> simp_all
       exact RG.gno hg (this ▸ hx) k
   · rename_i hx; cases h; exact RG.gun hg hx k
   · cases h
variable (P G r N) in
def EF (i : Ins) (K : DV → Hp → Prop) (Kp : DV → Hp → Prop) (fr : Fr) (H : Hp) : Prop :=
 ∀ (fr1 : Fr) (l : List Ins) (Q : EX → Fr → Hp → Prop), (∀ t ∈ slotsI i, fr1 t = fr t) → (∀ d H', K d H' → RG P G r N l Q (fr1.put i.dst d) H') → (∀ d fr' H', Kp d H' → Q (.panic d) fr' H') → RG P G r N (i :: l) Q fr1 H
def Stab (G : Gl) (fr : Fr) (H : Hp) (i : Ins) : Prop := ∃ d, evI G fr H i = some d ∧ ∀ t, i.dst = some t → fr t = d
def okD (l : List Ins) (dep : Nat → List Nat) (eff : List Nat) : Prop :=
 (∀ (i j : Nat) (x y : Ins) (t : Nat), l[i]? = some x → l[j]? = some y → x.dst = some t → y.dst = some t → i = j) ∧
 (∀ (i j : Nat) (x y : Ins) (t : Nat), l[i]? = some x → l[j]? = some y → x.dst = some t → t ∈ slotsI y → i ∈ dep j ∨ (j ∈ dep i ∧ i ∈ eff))
variable (P G r N) in
inductive VD (l : List Ins) (dep : Nat → List Nat) (eff : List Nat) (Q : EX → Fr → Hp → Prop) : List Nat → List Nat → Fr → Hp → Prop
 | val {V pend : List Nat} {fr : Fr} {H : Hp} (i : Nat) (x : Ins) {d : DV} (hx : l[i]? = some x) (he : i ∉ eff) (hv : i ∉ V) (hd : ∀ j ∈ dep i, j ∈ V) (hs : evI G fr H x = some d)
   (k : VD l dep eff Q (i :: V) (i :: pend) (fr.put x.dst d) H) : VD l dep eff Q V pend fr H
 | effs {V pend : List Nat} {fr : Fr} {H : Hp} (A : List Nat) (X : Nat → Ins) (K Kp : Nat → DV → Hp → Prop) (hA : A ≠ []) (hx : ∀ i ∈ A, l[i]? = some (X i) ∧ i ∈ eff ∧ i ∉ V ∧ ∀ j ∈ dep i, j ∈ V)
   (ho : ∀ j, j < l.length → j ∉ V → (∀ k ∈ dep j, k ∈ V) → j ∈ A)
   (hs : ∀ i ∈ A, EF P G r N (X i) (K i) (Kp i) fr H) (hp : ∀ i ∈ A, ∀ d fr' H', Kp i d H' → Q (.panic d) fr' H')
   (hst : ∀ i ∈ A, ∀ d H', K i d H' → ∀ j ∈ pend, j ∉ dep i → ∀ y, l[j]? = some y → Stab G (fr.put (X i).dst d) H' y)
   (k : ∀ i ∈ A, ∀ d H', K i d H' → VD l dep eff Q (i :: V) (pend.filter fun j => !(dep i).contains j) (fr.put (X i).dst d) H') : VD l dep eff Q V pend fr H
 | done {V pend : List Nat} {fr : Fr} {H : Hp} (ha : ∀ j, j < l.length → j ∈ V) (hq : Q .normal fr H) : VD l dep eff Q V pend fr H
structure Beh (l : List Ins) (dep : Nat → List Nat) (eff V pend R : List Nat) (fr fr1 : Fr) (H : Hp) (G : Gl) : Prop where
 sub : ∀ i ∈ R, i ∈ V
 pnd : ∀ i ∈ V, i ∉ R → i ∈ pend
 pe : ∀ i ∈ pend, i ∉ eff
 vd : ∀ i ∈ V, ∀ j ∈ dep i, j ∈ V
 vl : ∀ i ∈ V, i < l.length
 mask : ∀ t, fr1 t = fr t ∨ ∃ (i : Nat) (x : Ins), i ∈ V ∧ i ∉ R ∧ l[i]? = some x ∧ x.dst = some t
 st : ∀ i ∈ V, i ∉ R → ∀ x, l[i]? = some x → Stab G fr H x
theorem Fr.put_ne {fr : Fr} {dst : Option Nat} {d : DV} {t : Nat} (h : dst ≠ some t) : fr.put dst d t = fr t := by
 cases dst with
 | none => rfl
 | some u =>
   have : t ≠ u := fun e => h (by rw [e])
   simp only [Fr.put, Fr.set]
   have : Nat.beq t u = false := by
    cases e : Nat.beq t u with
    | false => rfl
    | true => exact absurd (Nat.eq_of_beq_eq_true e) this
   simp [this]
theorem Fr.put_eq {fr : Fr} {d : DV} {t : Nat} : fr.put (some t) d t = d := by
 simp only [Fr.put, Fr.set]
 simp
section
variable {l : List Ins} {dep : Nat → List Nat} {eff V pend R : List Nat} {fr fr1 : Fr} {H : Hp}
theorem Beh.slot (hok : okD l dep eff) (hb : Beh l dep eff V pend R fr fr1 H G) {j : Nat} {y : Ins} (hy : l[j]? = some y) (hd : ∀ k ∈ dep j, k ∈ R) : ∀ t ∈ slotsI y, fr1 t = fr t := by
 intro t ht
 rcases hb.mask t with h | ⟨i, x, h1, h2, h3, h4⟩
 · exact h
 · rcases hok.2 i j x y t h3 hy h4 ht with h | ⟨_, h⟩
   · exact absurd (hd i h) h2
   · exact absurd h (hb.pe i (hb.pnd i h1 h2))
theorem Beh.pending (hok : okD l dep eff) (hb : Beh l dep eff V pend R fr fr1 H G) {j : Nat} (hj : j ∈ V) (hjR : j ∉ R) {y : Ins} (hy : l[j]? = some y) (hd : ∀ k ∈ dep j, k ∈ R) :
  ∃ d, evI G fr1 H y = some d ∧ Beh l dep eff V pend (j :: R) fr (fr1.put y.dst d) H G := by
 obtain ⟨d, h1, h2⟩ := hb.st j hj hjR y hy
 refine ⟨d, (evI_congr (hb.slot hok hy hd)).trans h1, ?_⟩
 refine ⟨fun i hi => ?_, fun i hi hr => hb.pnd i hi (fun h => hr (by simp [h])), hb.pe, hb.vd, hb.vl, fun t => ?_, fun i hi hr x hx => hb.st i hi (fun h => hr (by simp [h])) x hx⟩
 · rcases List.mem_cons.1 hi with rfl | hi
   · exact hj
   · exact hb.sub i hi
 · by_cases ht : y.dst = some t
   · left; rw [ht, Fr.put_eq, h2 t ht]
   · rw [Fr.put_ne ht]
     rcases hb.mask t with h | ⟨i, x, k1, k2, k3, k4⟩
     · exact .inl h
     · right
       refine ⟨i, x, k1, fun h => ?_, k3, k4⟩
       rcases List.mem_cons.1 h with rfl | h
       · rw [hy] at k3; cases k3; exact ht k4
       · exact k2 h
theorem VD.sound {Q : EX → Fr → Hp → Prop} (hok : okD l dep eff) (h : VD P G r N l dep eff Q V pend fr H) : ∀ (π R : List Nat) (fr1 : Fr), Lin l.length dep R π → Beh l dep eff V pend R fr fr1 H G →
  RG P G r N (π.filterMap (l[·]?)) Q fr1 H := by
 induction h with
 | @val V pend fr H i x d hx he hv hd hs k ih =>
   intro π R fr1 hl hb
   have hself : ∀ (j : Nat) (y : Ins), l[j]? = some y → j ∈ V ∨ j = i → ∀ t ∈ slotsI y, x.dst ≠ some t := by
    intro j y hy hj t ht e
    rcases hok.2 i j x y t hx hy e ht with h | ⟨_, h⟩
    · rcases hj with hj | hj
      · exact hv (hb.vd j hj i h)
      · subst hj; exact hv (hd j h)
    · exact he h
   refine ih π R fr1 hl ⟨fun j hj => by simp [hb.sub j hj], fun j hj hr => ?_, fun j hj => ?_, fun j hj k' hk => ?_, fun j hj => ?_, fun t => ?_, fun j hj hr y hy => ?_⟩
   · rcases List.mem_cons.1 hj with rfl | hj
     · simp
     · simp [hb.pnd j hj hr]
   · rcases List.mem_cons.1 hj with rfl | hj
     · exact he
     · exact hb.pe j hj
   · rcases List.mem_cons.1 hj with rfl | hj
     · simp [hd _ hk]
     · simp [hb.vd j hj _ hk]
   · rcases List.mem_cons.1 hj with rfl | hj
     · exact (List.getElem?_eq_some_iff.1 hx).1
     · exact hb.vl j hj
   · by_cases ht : x.dst = some t
     · right; exact ⟨i, x, by simp, fun h => hv (hb.sub i h), hx, ht⟩
     · rw [Fr.put_ne ht]
       rcases hb.mask t with h | ⟨j, y, k1, k2, k3, k4⟩
       · exact .inl h
       · exact .inr ⟨j, y, by simp [k1], k2, k3, k4⟩
   · rcases List.mem_cons.1 hj with rfl | hj
     · rw [hx] at hy
       cases hy
       refine ⟨d, ?_, fun t ht => by rw [ht, Fr.put_eq]⟩
       rw [← hs]
       exact evI_congr fun t ht => Fr.put_ne (hself j x hx (.inr rfl) t ht)
     · obtain ⟨d', h1, h2⟩ := hb.st j hj hr y hy
       refine ⟨d', ?_, fun t ht => ?_⟩
       · rw [← h1]
         exact evI_congr fun t ht => Fr.put_ne (hself j y hy (.inl hj) t ht)
       · rw [← h2 t ht]
         refine Fr.put_ne fun e => ?_
         have := hok.1 i j x y t hx hy e ht
         exact hv (this ▸ hj)
 | @effs V pend fr H A X K Kp hA hxa ho hs hp hst k ih =>
   intro π
   induction π with
   | nil =>
     intro R fr1 hl hb
     obtain ⟨i, hi⟩ := List.exists_mem_of_ne_nil A hA
     obtain ⟨hx, _, hv, _⟩ := hxa i hi
     exact absurd (hb.sub i (hl i (List.getElem?_eq_some_iff.1 hx).1)) hv
   | cons j π ihπ =>
     intro R fr1 hl hb
     obtain ⟨hj, hjR, hjd, hl'⟩ := hl
     have hy : l[j]? = some l[j] := List.getElem?_eq_getElem hj
     rw [List.filterMap_cons, hy]
     by_cases hjV : j ∈ V
     · obtain ⟨d, h1, h2⟩ := hb.pending hok hjV hjR hy hjd
       exact RG.ev h1 (ihπ _ _ hl' h2)
     · have hji := ho j hj hjV (fun k hk => hb.sub k (hjd k hk))
       obtain ⟨hx, he, hv, hd⟩ := hxa j hji
       rw [hx] at hy
       have hy := Option.some.inj hy
       rw [← hy]
       refine hs j hji fr1 _ Q (hb.slot hok hx hjd) (fun d H' hK => ?_) (hp j hji)
       refine ih j hji d H' hK π _ _ hl' ⟨fun k hk => ?_, fun k hk hr => ?_, fun k hk => ?_, fun a ha b hb' => ?_, fun a ha => ?_, fun t => ?_, fun a ha hr y hy => ?_⟩
       · rcases List.mem_cons.1 hk with rfl | hk
         · simp
         · simp [hb.sub k hk]
       · have hkR : k ∉ R := fun h => hr (by simp [h])
         rcases List.mem_cons.1 hk with rfl | hk
         · exact absurd (by simp) hr
         · rw [List.mem_filter]
           refine ⟨hb.pnd k hk hkR, ?_⟩
           have : k ∉ dep j := fun h => hkR (hjd k h)
           simpa using this
       · exact hb.pe k (List.mem_filter.1 hk).1
       · rcases List.mem_cons.1 ha with rfl | ha
         · simp [hd b hb']
         · simp [hb.vd a ha b hb']
       · rcases List.mem_cons.1 ha with rfl | ha
         · exact hj
         · exact hb.vl a ha
       · by_cases ht : (X j).dst = some t
         · left; rw [ht, Fr.put_eq, Fr.put_eq]
         · rw [Fr.put_ne ht, Fr.put_ne ht]
           rcases hb.mask t with h | ⟨a, y, k1, k2, k3, k4⟩
           · exact .inl h
           · refine .inr ⟨a, y, by simp [k1], fun h => ?_, k3, k4⟩
             rcases List.mem_cons.1 h with rfl | h
             · exact hv k1
             · exact k2 h
       · have haR : a ∉ R := fun h => hr (by simp [h])
         rcases List.mem_cons.1 ha with rfl | ha
         · exact absurd (by simp) hr
         · exact hst j hji d H' hK a (hb.pnd a ha haR) (fun h => haR (hjd a h)) y hy
 | @done V pend fr H ha hq =>
   intro π
   induction π with
   | nil =>
     intro R fr1 hl hb
     refine RG.nil ?_
     have : fr1 = fr := by
      funext t
      rcases hb.mask t with h | ⟨i, x, h1, h2, h3, h4⟩
      · exact h
      · exact absurd (hl i (List.getElem?_eq_some_iff.1 h3).1) h2
     rw [this]; exact hq
   | cons j π ihπ =>
     intro R fr1 hl hb
     obtain ⟨hj, hjR, hjd, hl'⟩ := hl
     have hy : l[j]? = some l[j] := List.getElem?_eq_getElem hj
     rw [List.filterMap_cons, hy]
     obtain ⟨d, h1, h2⟩ := hb.pending hok (ha j hj) hjR hy hjd
     exact RG.ev h1 (ihπ _ _ hl' h2)
end
def okDb (l : List Ins) (aft : List (List Nat)) (eff : List Nat) : Bool :=
 (List.range l.length).all fun i => (List.range l.length).all fun j => match l[i]?, l[j]? with
  | some x, some y => match x.dst with
    | none => true
    | some t => (!(y.dst == some t) || i == j) && (!((slotsI y).contains t) || (depL aft j).contains i || ((depL aft i).contains j && eff.contains i))
  | _, _ => true
theorem okDb_sound {l : List Ins} {aft : List (List Nat)} {eff : List Nat} (h : okDb l aft eff = true) : okD l (depL aft) eff := by
 unfold okDb at h
 have key : ∀ (i j : Nat) (x y : Ins) (t : Nat), l[i]? = some x → l[j]? = some y → x.dst = some t →
   ((!(y.dst == some t) || i == j) && (!((slotsI y).contains t) || (depL aft j).contains i || ((depL aft i).contains j && eff.contains i))) = true := by
  intro i j x y t h1 h2 h3
  have hi := (List.getElem?_eq_some_iff.1 h1).1
  have hj := (List.getElem?_eq_some_iff.1 h2).1
  have := List.all_eq_true.1 (List.all_eq_true.1 h i (by simpa using hi)) j (by simpa using hj)
  rw [h1, h2] at this
  simp only [h3] at this
  exact this
 refine ⟨fun i j x y t h1 h2 h3 h4 => ?_, fun i j x y t h1 h2 h3 h4 => ?_⟩
 · have := key i j x y t h1 h2 h3
   rw [Bool.and_eq_true] at this
   have := this.1
   rw [h4] at this
   simpa using this
 · have := key i j x y t h1 h2 h3
   rw [Bool.and_eq_true] at this
   have h5 := this.2
   have h6 : (slotsI y).contains t = true := by simpa using h4
   rw [h6] at h5
   simpa using h5
theorem AC.drawV {l : List Ins} {aft : List (List Nat)} (eff : List Nat) {Q : EX → Fr → Hp → Prop} {fr : Fr} {H : Hp} (hok : okDb l aft eff = true) (h : VD P G r N l (depL aft) eff Q [] [] fr H) :
  AC P G r N (.draw l aft) Q fr H :=
 AC.draw fun π hl => h.sound (okDb_sound hok) π [] fr hl ⟨fun i hi => by simp at hi, fun i hi => by simp at hi, fun i hi => by simp at hi, fun i hi => by simp at hi, fun i hi => by simp at hi, fun t => .inl rfl, fun i hi => by simp at hi⟩
end
section
variable {P : Program} {G : Gl} {r : Option Nat} {N : Nat} {dst : Option Nat} {l : List Ins} {Q : EX → Fr → Hp → Prop} {fr : Fr} {H : Hp} {x y : X}
def GOk (g : Option (Nat × Bool)) (fr : Fr) : Prop := match g with
 | none => True
 | some (t, b) => fr t = .bool b
theorem GOk.d {g : Option (Nat × Bool)} {fr : Fr} (h : GOk g fr := by first | exact trivial | exact rfl) : GOk g fr := h
variable {g : Option (Nat × Bool)}
theorem GOk.or {fr : Fr} (h : GOk g fr) : g = none ∨ ∃ t b, g = some (t, b) ∧ fr t = .bool b := by
 cases g with
 | none => exact .inl rfl
 | some p => exact .inr ⟨p.1, p.2, rfl, h⟩
theorem RG.p {op : OP} {d : DV} (hg : GOk g fr) (h : evP G fr H op = some d) (k : RG P G r N l Q (fr.put dst d) H) : RG P G r N (⟨dst, g, op⟩ :: l) Q fr H := RG.step hg.or (ST.pure h k)
theorem RG.s {op : OP} (hg : GOk g fr) (h : ST P G r N op dst (RG P G r N l Q) Q fr H) : RG P G r N (⟨dst, g, op⟩ :: l) Q fr H := RG.step hg.or h
theorem RG.m {d : DV} (hg : GOk g fr) (h : XV G fr x = d) (k : RG P G r N l Q (fr.put dst d) H) : RG P G r N (⟨dst, g, .mv x⟩ :: l) Q fr H := RG.p hg (by simp only [evP, h]) k
theorem RG.pkT {c a b : X} {d : DV} (hg : GOk g fr) (hc : XV G fr c = .bool true) (h : XV G fr a = d) (k : RG P G r N l Q (fr.put dst d) H) : RG P G r N (⟨dst, g, .pick c a b⟩ :: l) Q fr H := RG.p hg (by simp only [evP, hc, h]) k
theorem RG.pkF {c a b : X} {d : DV} (hg : GOk g fr) (hc : XV G fr c = .bool false) (h : XV G fr b = d) (k : RG P G r N l Q (fr.put dst d) H) : RG P G r N (⟨dst, g, .pick c a b⟩ :: l) Q fr H := RG.p hg (by simp only [evP, hc, h]) k
theorem RG.gn {op : OP} {t : Nat} {b : Bool} (hg : fr t = .bool (!b)) (k : RG P G r N l Q (fr.put dst (.tup [])) H) : RG P G r N (⟨dst, some (t, b), op⟩ :: l) Q fr H := RG.gno rfl hg k
theorem RG.gu {op : OP} {t : Nat} {b : Bool} {ds : List DV} (hg : fr t = .tup ds) (k : RG P G r N l Q (fr.put dst (.tup [])) H) : RG P G r N (⟨dst, some (t, b), op⟩ :: l) Q fr H := RG.gun rfl hg k
theorem RG.addI {a b : Int} (hg : GOk g fr) (hx : XV G fr x = .int .i64 a) (hy : XV G fr y = .int .i64 b) (hr : -9223372036854775808 ≤ a + b ∧ a + b ≤ 9223372036854775807) (k : RG P G r N l Q (fr.put dst (.int .i64 (a + b))) H) :
  RG P G r N (⟨dst, g, .bin .add x y⟩ :: l) Q fr H :=
 RG.p hg (by simp only [evP, hx, hy, binD, binI, if_true, IntWalk.i64_in _ hr]) k
theorem RG.subI {a b : Int} (hg : GOk g fr) (hx : XV G fr x = .int .i64 a) (hy : XV G fr y = .int .i64 b) (hr : -9223372036854775808 ≤ a - b ∧ a - b ≤ 9223372036854775807) (k : RG P G r N l Q (fr.put dst (.int .i64 (a - b))) H) :
  RG P G r N (⟨dst, g, .bin .sub x y⟩ :: l) Q fr H :=
 RG.p hg (by simp only [evP, hx, hy, binD, binI, if_true, IntWalk.i64_in _ hr]) k
theorem RG.addS {a b : List UInt8} (hg : GOk g fr) (hx : XV G fr x = .str a) (hy : XV G fr y = .str b) (hr : a.length + b.length ≤ 9223372036854775807) (k : RG P G r N l Q (fr.put dst (.str (a ++ b))) H) :
  RG P G r N (⟨dst, g, .bin .add x y⟩ :: l) Q fr H :=
 RG.p hg (by simp only [evP, hx, hy, binD, binS, if_pos hr]) k
theorem evP_from {s : List UInt8} {i : Int} {lo : X} (hx : XV G fr x = .str s) (hl : XV G fr lo = .int .i64 i) (hr : 0 ≤ i ∧ i ≤ s.length) : evP G fr H (.slcS x (some lo) none) = some (.str (s.drop i.toNat)) := by
 simp only [evP, Option.map_some, Option.map_none, hx, hl, slcSD, bndD, Option.bind_some]
 rw [if_pos ⟨hr.1, hr.2⟩]
 simp
theorem evP_upto {s : List UInt8} {i : Int} {hi : X} (hx : XV G fr x = .str s) (hl : XV G fr hi = .int .i64 i) (hr : 0 ≤ i ∧ i ≤ s.length) : evP G fr H (.slcS x none (some hi)) = some (.str (s.take i.toNat)) := by
 simp only [evP, Option.map_some, Option.map_none, hx, hl, slcSD, bndD]
 rw [if_pos ⟨hr.1, hr.2⟩]
 simp
theorem evP_addI {a b : Int} (hx : XV G fr x = .int .i64 a) (hy : XV G fr y = .int .i64 b) (hr : -9223372036854775808 ≤ a + b ∧ a + b ≤ 9223372036854775807) : evP G fr H (.bin .add x y) = some (.int .i64 (a + b)) := by
 simp only [evP, hx, hy, binD, binI, if_true, IntWalk.i64_in _ hr]
theorem evP_at {s : List UInt8} {i : Int} {b : UInt8} (hx : XV G fr x = .str s) (hl : XV G fr y = .int .i64 i) (h0 : 0 ≤ i) (hb : s[i.toNat]? = some b) : evP G fr H (.idx x y) = some (.int .u8 b.toNat) := by
 simp only [evP, hx, hl, idxD, if_pos h0, hb, Option.map_some]
theorem evP_ld {b off sz : Nat} {agg : Bool} {cs : List DV} {ty : TypeId} {d : DV} (hx : XV G fr x = .ptr b off) (hb : H b = some (.cells cs ty)) (hd : partD agg off sz cs = some d) : evP G fr H (.ld agg sz x) = some d := by
 simp only [evP, hx, ldD, hb, hd]
theorem evP_eqptr {neg : Bool} {b o o' : Nat} (hx : XV G fr x = .ptr b o) (hy : XV G fr y = .ptr b o') : evP G fr H (.eqn neg .ptr x y) = some (.bool (bif neg then !(o == o') else o == o')) := by
 simp only [evP, hx, hy, eqD, if_true, Option.map_some]
theorem evP_iadrA {b off len sz : Nat} {k : IntKind} {i : Int} (hx : XV G fr x = .ptr b off) (hy : XV G fr y = .int k i) (hr : 0 ≤ i ∧ i < len) : evP G fr H (.iadrA len sz x y) = some (.ptr b (off + i.toNat * sz)) := by
 simp only [evP, hx, hy, iadrAD]; exact if_pos hr
theorem evP_iadr {cs : List DV} {n sz : Nat} {tag : Option (Nat × Nat)} {k : IntKind} {i : Int} (hx : XV G fr x = .lst cs n sz tag) (hy : XV G fr y = .int k i) (hr : 0 ≤ i ∧ i < n) : evP G fr H (.iadr sz x y) = some (.cptr (cs.drop (i.toNat * sz))) := by
 simp only [evP, hx, hy, iadrD, and_true]; exact if_pos hr
theorem evP_ldc {sz : Nat} {agg : Bool} {cs : List DV} {d : DV} (hx : XV G fr x = .cptr cs) (hd : partD agg 0 sz cs = some d) : evP G fr H (.ld agg sz x) = some d := by
 simp only [evP, hx, ldD, hd]
theorem partD_row {cs : List DV} {sz i : Nat} {ds : List DV} (h : (cs.drop (i * sz)).take sz = ds) (hl : (i + 1) * sz ≤ cs.length) : partD true 0 sz (cs.drop (i * sz)) = some (.agg ds) := by
 have e : (i + 1) * sz = i * sz + sz := by rw [Nat.add_mul, Nat.one_mul]
 simp only [partD, if_true, List.length_drop, List.drop_zero, h]
 rw [if_pos (by omega)]
theorem partD_one {cs : List DV} {i : Nat} {d : DV} (h : cs[i]? = some d) : partD false 0 1 (cs.drop (i * 1)) = some d := by
 simp only [partD, Bool.false_eq_true, if_false, Nat.mul_one, List.getElem?_drop, Nat.add_zero, h]
theorem RG.from {s : List UInt8} {i : Int} {lo : X} (hg : GOk g fr) (hx : XV G fr x = .str s) (hl : XV G fr lo = .int .i64 i) (hr : 0 ≤ i ∧ i ≤ s.length) (k : RG P G r N l Q (fr.put dst (.str (s.drop i.toNat))) H) :
  RG P G r N (⟨dst, g, .slcS x (some lo) none⟩ :: l) Q fr H := RG.p hg (evP_from hx hl hr) k
theorem RG.upto {s : List UInt8} {i : Int} {hi : X} (hg : GOk g fr) (hx : XV G fr x = .str s) (hl : XV G fr hi = .int .i64 i) (hr : 0 ≤ i ∧ i ≤ s.length) (k : RG P G r N l Q (fr.put dst (.str (s.take i.toNat))) H) :
  RG P G r N (⟨dst, g, .slcS x none (some hi)⟩ :: l) Q fr H := RG.p hg (evP_upto hx hl hr) k
theorem RG.at {s : List UInt8} {i : Int} {b : UInt8} (hg : GOk g fr) (hx : XV G fr x = .str s) (hl : XV G fr y = .int .i64 i) (h0 : 0 ≤ i) (hb : s[i.toNat]? = some b) (k : RG P G r N l Q (fr.put dst (.int .u8 b.toNat)) H) :
  RG P G r N (⟨dst, g, .idx x y⟩ :: l) Q fr H := RG.p hg (evP_at hx hl h0 hb) k
theorem RG.ld {b off sz : Nat} {agg : Bool} {cs : List DV} {ty : TypeId} {d : DV} (hg : GOk g fr) (hx : XV G fr x = .ptr b off) (hb : H b = some (.cells cs ty)) (hd : partD agg off sz cs = some d) (k : RG P G r N l Q (fr.put dst d) H) :
  RG P G r N (⟨dst, g, .ld agg sz x⟩ :: l) Q fr H := RG.p hg (evP_ld hx hb hd) k
theorem RG.sto {sz b off : Nat} {d : DV} {cs ys : List DV} {ty : TypeId} (hg : GOk g fr) (hx : XV G fr x = .ptr b off) (hb : H b = some (.cells cs ty))
  (hy : XV G fr y = d) (hc : cellsD d = some ys) (hl : ys.length = sz) (hle : off + sz ≤ cs.length) (k : RG P G r N l Q (fr.put dst .junk) (H.upd b (some (.cells (spliceL off ys cs) ty)))) : RG P G r N (⟨dst, g, .st sz x y⟩ :: l) Q fr H :=
 RG.s hg (ST.st hx hb (by rw [hy]; exact hc) hl hle k)
theorem RG.call {f : FuncId} {xs : List X} {ds : List DV} {Kr Kp : DV → Hp → Prop} (hg : GOk g fr) (hx : xs.map (XV G fr) = ds) (h : CALL P G f ds H Kr Kp) (kr : ∀ d H', Kr d H' → RG P G r N l Q (fr.put dst d) H') (kp : ∀ d H', Kp d H' → Q (.panic d) fr H') :
  RG P G r N (⟨dst, g, .call f xs⟩ :: l) Q fr H :=
 RG.s hg (ST.call ((hx ▸ h).mono kr kp))
theorem RG.callR {f : FuncId} {xs : List X} {ds : List DV} {d : DV} {H' : Hp} (hg : GOk g fr) (hx : xs.map (XV G fr) = ds) (h : CALL P G f ds H (fun d' h' => d' = d ∧ h' = H') (fun _ _ => False)) (k : RG P G r N l Q (fr.put dst d) H') :
  RG P G r N (⟨dst, g, .call f xs⟩ :: l) Q fr H :=
 RG.call hg hx h (fun _ _ ⟨e1, e2⟩ => by subst e1; subst e2; exact k) (fun _ _ h => h.elim)
theorem RG.callP {f : FuncId} {xs : List X} {ds : List DV} {d : DV} (hg : GOk g fr) (hx : xs.map (XV G fr) = ds) (h : PF P G f ds d) (k : RG P G r N l Q (fr.put dst d) H) :
  RG P G r N (⟨dst, g, .call f xs⟩ :: l) Q fr H := RG.callR hg hx (h H) k
theorem RG.calv {f : FuncId} {xs : List X} {df dc ds : List DV} {Kr Kp : DV → Hp → Prop} (hg : GOk g fr) (hx : XV G fr x = .func (.func f) df dc) (hds : df ++ xs.map (XV G fr) ++ dc = ds) (h : CALL P G f ds H Kr Kp)
  (kr : ∀ d H', Kr d H' → RG P G r N l Q (fr.put dst d) H') (kp : ∀ d H', Kp d H' → Q (.panic d) fr H') : RG P G r N (⟨dst, g, .calv x xs⟩ :: l) Q fr H :=
 RG.s hg (ST.calv hx ((hds ▸ h).mono kr kp))
theorem RG.calvP {f : FuncId} {xs : List X} {df dc ds : List DV} {d : DV} (hg : GOk g fr) (hx : XV G fr x = .func (.func f) df dc) (hds : df ++ xs.map (XV G fr) ++ dc = ds) (h : PF P G f ds d) (k : RG P G r N l Q (fr.put dst d) H) :
  RG P G r N (⟨dst, g, .calv x xs⟩ :: l) Q fr H :=
 RG.calv hg hx hds (h H) (fun _ _ ⟨e1, e2⟩ => by subst e1; subst e2; exact k) (fun _ _ h => h.elim)
theorem RG.box {ty : TypeId} {d : DV} {ys : List DV} (hg : GOk g fr) (hy : XV G fr x = d) (hc : cellsD d = some ys) (k : ∀ b, H b = none → RG P G r N l Q (fr.put dst (.ptr b 0)) (H.upd b (some (.cells ys ty)))) : RG P G r N (⟨dst, g, .box ty x⟩ :: l) Q fr H := RG.s hg (ST.box (by rw [hy]; exact hc) k)
theorem RG.alloc {zs : List DV} {ty : TypeId} (hg : GOk g fr) (k : ∀ b, H b = none → RG P G r N l Q (fr.put dst (.ptr b 0)) (H.upd b (some (.cells zs ty)))) : RG P G r N (⟨dst, g, .alloc zs ty⟩ :: l) Q fr H := RG.s hg (ST.alloc k)
theorem EF.of_evP {i : Ins} {d : DV} (h : evI G fr H i = some d) : EF P G r N i (fun d' H' => d' = d ∧ H' = H) (fun _ _ => False) fr H :=
 fun fr1 l Q hs k _ => RG.ev ((evI_congr hs).trans h) (k d H ⟨rfl, rfl⟩)
theorem EF.call {f : FuncId} {xs : List X} {ds : List DV} {Kr Kp : DV → Hp → Prop} (hx : xs.map (XV G fr) = ds) (h : CALL P G f ds H Kr Kp) : EF P G r N ⟨dst, none, .call f xs⟩ Kr Kp fr H := by
 intro fr1 l Q hs k kp
 have e : xs.map (XV G fr1) = ds := by
  rw [← hx]
  exact mapXV_congr xs fun x hx => XV_congr fun t ht => hs t (by
   unfold slotsI; exact List.mem_append_left _ (List.mem_flatMap.2 ⟨x, hx, ht⟩))
 exact RG.call (g := none) trivial e h k (fun d H' hk => kp d _ H' hk)
def vdOk (dep : Nat → List Nat) (eff V : List Nat) (i : Nat) : Bool := !eff.contains i && !V.contains i && (dep i).all V.contains
theorem VD.pv {is : List Ins} {dep : Nat → List Nat} {eff V pend : List Nat} {op : OP} {d : DV} (i : Nat) (hx : is[i]? = some ⟨dst, none, op⟩) (hok : vdOk dep eff V i = true) (hs : evP G fr H op = some d)
  (k : VD P G r N is dep eff Q (i :: V) (i :: pend) (fr.put dst d) H) : VD P G r N is dep eff Q V pend fr H := by
 unfold vdOk at hok
 simp only [Bool.and_eq_true, Bool.not_eq_true', List.all_eq_true] at hok
 exact VD.val i _ hx (by have := hok.1.1; simpa using this) (by have := hok.1.2; simpa using this) (fun j hj => by have := hok.2 j hj; simpa using this) hs k
theorem VD.pm {is : List Ins} {dep : Nat → List Nat} {eff V pend : List Nat} {d : DV} (i : Nat) (hx : is[i]? = some ⟨dst, none, .mv x⟩) (hok : vdOk dep eff V i = true) (hs : XV G fr x = d)
  (k : VD P G r N is dep eff Q (i :: V) (i :: pend) (fr.put dst d) H) : VD P G r N is dep eff Q V pend fr H := VD.pv i hx hok (by simp only [evP, hs]) k
def vdOne (n : Nat) (dep : Nat → List Nat) (eff V : List Nat) (i : Nat) : Bool :=
 eff.contains i && !V.contains i && (dep i).all V.contains && (List.range n).all fun j => j == i || V.contains j || !(dep j).all V.contains
theorem VD.pe {is : List Ins} {dep : Nat → List Nat} {eff V pend : List Nat} {op : OP} {K Kp : DV → Hp → Prop} (i : Nat) (hx : is[i]? = some ⟨dst, none, op⟩) (hok : vdOne is.length dep eff V i = true) (hs : EF P G r N ⟨dst, none, op⟩ K Kp fr H)
  (hp : ∀ d fr' H', Kp d H' → Q (.panic d) fr' H')
  (k : ∀ d H', K d H' → (∀ j ∈ pend.filter fun j => !(dep i).contains j, ∀ y, is[j]? = some y → Stab G (fr.put dst d) H' y) ∧ VD P G r N is dep eff Q (i :: V) (pend.filter fun j => !(dep i).contains j) (fr.put dst d) H') : VD P G r N is dep eff Q V pend fr H := by
 unfold vdOne at hok
 simp only [Bool.and_eq_true, Bool.not_eq_true', List.all_eq_true, Bool.or_eq_true] at hok
 obtain ⟨⟨⟨h1, h2⟩, h3⟩, h4⟩ := hok
 refine VD.effs [i] (fun _ => ⟨dst, none, op⟩) (fun _ => K) (fun _ => Kp) (by simp) (fun a ha => ?_) (fun j hj hjV hd => ?_) (fun a ha => hs) (fun a ha => hp) (fun a ha d H' hK j hj hji y hy => (k d H' hK).1 j ?_ y hy) (fun a ha d H' hK => ?_)
 · rw [List.mem_singleton.1 ha]
   exact ⟨hx, by simpa using h1, by simpa using h2, fun j hj => by have := h3 j hj; simpa using this⟩
 rotate_left 2
 · rw [List.mem_singleton.1 ha]
   exact (k d H' hK).2
 · rw [List.mem_singleton]
   rcases h4 j (by simpa using hj) with (h | h) | h
   · simpa using h
   · exact absurd (by simpa using h) hjV
   · have e : (dep j).all V.contains = true := List.all_eq_true.2 fun k hk => by simpa using hd k hk
     rw [e] at h; cases h
 · rw [List.mem_singleton.1 ha] at hji; rw [List.mem_filter]; exact ⟨hj, by simpa using hji⟩
theorem VD.pd {is : List Ins} {dep : Nat → List Nat} {eff V pend : List Nat} (ha : (List.range is.length).all (fun j => V.contains j) = true) (hq : Q .normal fr H) : VD P G r N is dep eff Q V pend fr H :=
 VD.done (fun j hj => by have := List.all_eq_true.1 ha j (by simpa using hj); simpa using this) hq
theorem stabAll_nil {is : List Ins} {H' : Hp} {fr' : Fr} : ∀ j ∈ ([] : List Nat), ∀ y, is[j]? = some y → Stab G fr' H' y := fun j hj => by simp at hj
theorem stabAll_cons {is : List Ins} {H' : Hp} {fr' : Fr} {j : Nat} {js : List Nat} {y : Ins} (hy : is[j]? = some y) (h : Stab G fr' H' y) (hs : ∀ j ∈ js, ∀ y, is[j]? = some y → Stab G fr' H' y) : ∀ k ∈ (j :: js), ∀ y, is[k]? = some y → Stab G fr' H' y := by
 intro k hk y' hy'
 rcases List.mem_cons.1 hk with rfl | hk
 · rw [hy] at hy'; cases hy'; exact h
 · exact hs k hk y' hy'
theorem Stab.of {op : OP} {t : Nat} {d : DV} (h : evP G fr H op = some d) (ht : fr t = d) : Stab G fr H ⟨some t, none, op⟩ := ⟨d, h, fun u hu => by cases hu; exact ht⟩
theorem Stab.ld {b off sz t : Nat} {agg : Bool} {cs : List DV} {ty : TypeId} {d : DV} (hx : XV G fr x = .ptr b off) (hb : H b = some (.cells cs ty)) (hd : partD agg off sz cs = some d) (ht : fr t = d) : Stab G fr H ⟨some t, none, .ld agg sz x⟩ := Stab.of (evP_ld hx hb hd) ht
theorem Hp.upd_same {H : Hp} {b : Nat} {o : Option DO} : H.upd b o b = o := by simp [Hp.upd]
theorem Hp.upd_ne {H : Hp} {b k : Nat} {o : Option DO} (h : k ≠ b) : H.upd b o k = H k := by simp [Hp.upd, h]
theorem fin {rs : List RV} {Kr : DV → Hp → Prop} {ds : List DV} (h1 : evRes H fr rs = some ds) (h2 : Kr (tupD ds) H) : ∃ l d H', evRes H fr rs = some l ∧ Cv H H' (tupD l) d ∧ Kr d H' :=
 ⟨ds, _, H, h1, Cv.of (DLe.refl _) (SubH.refl H), h2⟩
theorem finL {rs : List RV} {Kr : DV → Hp → Prop} {ds : List DV} {d : DV} {H' : Hp} (h1 : evRes H fr rs = some ds) (hd : DLe (tupD ds) d) (hs : SubH H' H) (h2 : Kr d H') : ∃ l d H', evRes H fr rs = some l ∧ Cv H H' (tupD l) d ∧ Kr d H' :=
 ⟨ds, d, H', h1, Cv.of hd hs, h2⟩
theorem finD {rs : List RV} {Kr : DV → Hp → Prop} {ds : List DV} {H' : Hp} (h1 : evRes H fr rs = some ds) (hs : SubH H' H) (h2 : Kr (tupD ds) H') : ∃ l d H', evRes H fr rs = some l ∧ Cv H H' (tupD l) d ∧ Kr d H' :=
 ⟨ds, _, H', h1, Cv.of (DLe.refl _) hs, h2⟩
theorem Hp.upd_id {H : Hp} {b : Nat} {o : Option DO} (h : H b = o) : H.upd b o = H := by
 funext k
 by_cases e : k = b
 · subst e; rw [Hp.upd_same, h]
 · rw [Hp.upd_ne e]
theorem Hp.upd_upd {H : Hp} {b : Nat} {o o' : Option DO} : (H.upd b o).upd b o' = H.upd b o' := by
 funext k
 by_cases e : k = b
 · subst e; rw [Hp.upd_same, Hp.upd_same]
 · rw [Hp.upd_ne e, Hp.upd_ne e, Hp.upd_ne e]
theorem Hp.upd_comm {H : Hp} {b c : Nat} {o o' : Option DO} (h : b ≠ c) : (H.upd b o).upd c o' = (H.upd c o').upd b o := by
 funext k
 by_cases e : k = b
 · subst e; rw [Hp.upd_ne h, Hp.upd_same, Hp.upd_same]
 · by_cases e' : k = c
   · subst e'; rw [Hp.upd_same, Hp.upd_ne e, Hp.upd_same]
   · rw [Hp.upd_ne e', Hp.upd_ne e, Hp.upd_ne e, Hp.upd_ne e']
theorem SubH.fresh {H : Hp} {b : Nat} {o : Option DO} (h : H b = none) : SubH H (H.upd b o) := by
 intro k o' hk
 have : k ≠ b := fun e => by subst e; rw [h] at hk; cases hk
 rw [Hp.upd_ne this]; exact hk
theorem SubH.trans {A B C : Hp} (h : SubH A B) (k : SubH B C) : SubH A C := fun b o e => k b o (h b o e)
end
section
variable (G : Gl) (H : Hp)
def evR : List Ins → Fr → Option Fr
 | [], fr => some fr
 | i :: l, fr => (evI G fr H i).bind fun d => evR l (fr.put i.dst d)
def evBk (id : Nat) : EX → EX
 | .exit j => if Nat.beq j id then .normal else .exit j
 | e => e
def evC : Nat → CC → Fr → Option (EX × Fr)
 | 0, _, _ => none
 | n + 1, c, fr => match c with
   | .skip => some (.normal, fr)
   | .reg l => (evR G H l fr).map fun fr' => (.normal, fr')
   | .seq a b => (evC n a fr).bind fun p => match p with
     | (.normal, fr') => evC n b fr'
     | p => some p
   | .cond x a b => match XV G fr x with
     | .bool true => evC n a fr
     | .bool false => evC n b fr
     | _ => none
   | .block id c => (evC n c fr).map fun p => (evBk id p.1, p.2)
   | .loop c => (evC n c fr).bind fun p => match p with
     | (.normal, fr') => evC n (.loop c) fr'
     | p => some p
   | .exit id => some (.exit id, fr)
   | .ret => some (.ret, fr)
   | .scp c => evC n c fr
   | _ => none
def evFn (F : FN) (n : Nat) (ds : List DV) : Option DV :=
 (evC G H n F.c (argFr ds)).bind fun p => match p with
  | (.normal, fr') => (evRes H fr' F.rs).map tupD
  | (.ret, fr') => (evRes H fr' F.rs).map tupD
  | _ => none
end
section
variable {P : Program} {G : Gl} {r : Option Nat} {N : Nat} {H : Hp}
theorem evR_sound {Q : EX → Fr → Hp → Prop} : ∀ (l : List Ins) (fr fr' : Fr), evR G H l fr = some fr' → Q .normal fr' H → RG P G r N l Q fr H
 | [], fr, fr', h, hq => by cases h; exact RG.nil hq
 | i :: l, fr, fr', h, hq => by
   simp only [evR] at h
   obtain ⟨d, h1, h2⟩ := bindS h
   exact RG.ev h1 (evR_sound l _ _ h2 hq)
theorem evC_sound : ∀ (n : Nat) (c : CC) (fr fr' : Fr) (e : EX) (Q : EX → Fr → Hp → Prop), evC G H n c fr = some (e, fr') → Q e fr' H → AC P G r N c Q fr H := by
 intro n
 induction n with
 | zero => intro c fr fr' e Q h _; cases h
 | succ n ih =>
   intro c fr fr' e Q h hq
   cases c with
   | skip => simp only [evC, Option.some.injEq, Prod.mk.injEq] at h; obtain ⟨rfl, rfl⟩ := h; exact AC.skip hq
   | reg l =>
     simp only [evC, Option.map_eq_some_iff, Prod.mk.injEq] at h
     obtain ⟨f, h1, rfl, rfl⟩ := h
     exact AC.reg (evR_sound l _ _ h1 hq)
   | draw l a => simp only [evC] at h; cases h
   | seq a b =>
     simp only [evC] at h
     obtain ⟨⟨e1, f1⟩, h1, h2⟩ := bindS h
     refine AC.seq (ih a fr f1 e1 _ h1 ?_)
     cases e1 with
     | normal => exact ih b f1 fr' e Q h2 hq
     | exit j => simp only [Option.some.injEq, Prod.mk.injEq] at h2; obtain ⟨rfl, rfl⟩ := h2; exact hq
     | ret => simp only [Option.some.injEq, Prod.mk.injEq] at h2; obtain ⟨rfl, rfl⟩ := h2; exact hq
     | panic d => simp only [Option.some.injEq, Prod.mk.injEq] at h2; obtain ⟨rfl, rfl⟩ := h2; exact hq
   | cond x a b =>
     simp only [evC] at h
     split at h
     · rename_i hx; exact AC.cond_t hx (ih a fr fr' e Q h hq)
     · rename_i hx; exact AC.cond_f hx (ih b fr fr' e Q h hq)
     · cases h
   | block id c =>
     simp only [evC, Option.map_eq_some_iff, Prod.mk.injEq] at h
     obtain ⟨⟨e1, f1⟩, h1, rfl, rfl⟩ := h
     refine AC.block (ih c fr f1 e1 _ h1 ?_)
     cases e1 with
     | normal => exact hq
     | exit j =>
       simp only [evBk] at hq
       simp only [Bk]
       split at hq
       · rename_i he
         have : j = id := Nat.eq_of_beq_eq_true he
         rw [if_pos this]; exact hq
       · rename_i he
         have : ¬ j = id := fun e => he (by subst e; exact Nat.beq_refl j)
         rw [if_neg this]; exact hq
     | ret => exact hq
     | panic d => exact hq
   | loop c =>
     simp only [evC] at h
     obtain ⟨⟨e1, f1⟩, h1, h2⟩ := bindS h
     refine AC.loop (ih c fr f1 e1 _ h1 ?_)
     cases e1 with
     | normal => exact ih (.loop c) f1 fr' e Q h2 hq
     | exit j => simp only [Option.some.injEq, Prod.mk.injEq] at h2; obtain ⟨rfl, rfl⟩ := h2; exact hq
     | ret => simp only [Option.some.injEq, Prod.mk.injEq] at h2; obtain ⟨rfl, rfl⟩ := h2; exact hq
     | panic d => simp only [Option.some.injEq, Prod.mk.injEq] at h2; obtain ⟨rfl, rfl⟩ := h2; exact hq
   | rng x ps a b => simp only [evC] at h; cases h
   | exit id => simp only [evC, Option.some.injEq, Prod.mk.injEq] at h; obtain ⟨rfl, rfl⟩ := h; exact AC.exit hq
   | ret => simp only [evC, Option.some.injEq, Prod.mk.injEq] at h; obtain ⟨rfl, rfl⟩ := h; exact AC.ret hq
   | scp c => simp only [evC] at h; exact AC.scp (ih c fr fr' e Q h hq)
   | stuck => simp only [evC] at h; cases h
theorem CALL.ev {f : FuncId} {F : FN} {n : Nat} {ds : List DV} {d : DV} (hf : cFn P f = some F) (hl : ds.length ≤ F.N) (h : evFn G H F n ds = some d) : CALL P G f ds H (fun d' H' => d' = d ∧ H' = H) (fun _ _ => False) := by
 unfold evFn at h
 obtain ⟨⟨e, fr'⟩, h1, h2⟩ := bindS h
 refine CALL.of hf hl (evC_sound n _ _ fr' e _ h1 ?_)
 cases e with
 | normal =>
   simp only [Option.map_eq_some_iff] at h2
   obtain ⟨l, h3, rfl⟩ := h2
   exact fin h3 ⟨rfl, rfl⟩
 | ret =>
   simp only [Option.map_eq_some_iff] at h2
   obtain ⟨l, h3, rfl⟩ := h2
   exact fin h3 ⟨rfl, rfl⟩
 | exit j => simp only at h2; cases h2
 | panic d => simp only at h2; cases h2
def noGX : X → Bool
 | .g _ => false
 | _ => true
def noG : CC → Bool
 | .reg l => l.all fun i => (opX i.op).all noGX
 | .draw l _ => l.all fun i => (opX i.op).all noGX
 | .seq a b => noG a && noG b
 | .cond x a b => noGX x && noG a && noG b
 | .block _ c => noG c
 | .loop c => noG c
 | .rng x _ a b => noGX x && noG a && noG b
 | .scp c => noG c
 | _ => true
def noHp : Hp := fun _ => none
def noGl : Gl := fun _ => none
theorem XV_noG {fr : Fr} {x : X} (h : noGX x = true) : XV noGl fr x = XV G fr x := by
 cases x with
 | t n => rfl
 | c d => rfl
 | g n => cases h
theorem evP_noH {fr : Fr} {op : OP} {d : DV} (h : evP G fr noHp op = some d) : evP G fr H op = some d := by
 cases op
 case ld agg sz x =>
  simp only [evP] at h ⊢
  cases hx : XV G fr x <;> rw [hx] at h <;> simp only [ldD, noHp] at h ⊢ <;> first | exact h | (cases h)
 all_goals exact h
theorem evP_noG {fr : Fr} {op : OP} (h : (opX op).all noGX = true) : evP noGl fr H op = evP G fr H op := by
 replace h := List.all_eq_true.1 h
 cases op
 case mkfn fn f c =>
  simp only [opX, List.mem_append] at h
  simp only [evP]
  rw [List.map_congr_left (fun x hx => XV_noG (h x (.inl hx))), List.map_congr_left (l := c) (fun x hx => XV_noG (h x (.inr hx)))]
 case bld z ps =>
  simp only [evP]
  rw [bldD_congr ps z (fun p hp => XV_noG (h p.2.2 (by simp only [opX]; exact List.mem_map.2 ⟨p, hp, rfl⟩)))]
 case slcS x lo hi =>
  simp only [opX, List.mem_append, List.mem_singleton] at h
  have e : ∀ (o : Option X), (∀ y ∈ o.toList, noGX y = true) → o.map (XV noGl fr) = o.map (XV G fr) := fun o ho => by
   cases o with
   | none => rfl
   | some y => simp only [Option.map_some]; rw [XV_noG (ho y (by simp))]
  simp only [evP, e lo (fun y hy => h y (.inl (.inr hy))), e hi (fun y hy => h y (.inr hy)), XV_noG (G := G) (fr := fr) (h x (.inl (.inl rfl)))]
 case slcA n s x lo hi =>
  simp only [opX, List.mem_append, List.mem_singleton] at h
  have e : ∀ (o : Option X), (∀ y ∈ o.toList, noGX y = true) → o.map (XV noGl fr) = o.map (XV G fr) := fun o ho => by
   cases o with
   | none => rfl
   | some y => simp only [Option.map_some]; rw [XV_noG (ho y (by simp))]
  simp only [evP, e lo (fun y hy => h y (.inl (.inr hy))), e hi (fun y hy => h y (.inr hy)), XV_noG (G := G) (fr := fr) (h x (.inl (.inl rfl)))]
 case slc s x lo hi mx =>
  simp only [opX, List.mem_append, List.mem_singleton] at h
  have e : ∀ (o : Option X), (∀ y ∈ o.toList, noGX y = true) → o.map (XV noGl fr) = o.map (XV G fr) := fun o ho => by
   cases o with
   | none => rfl
   | some y => simp only [Option.map_some]; rw [XV_noG (ho y (by simp))]
  simp only [evP, e lo (fun y hy => h y (.inl (.inl (.inr hy)))), e hi (fun y hy => h y (.inl (.inr hy))), e mx (fun y hy => h y (.inr hy)), XV_noG (G := G) (fr := fr) (h x (.inl (.inl (.inl rfl))))]
 all_goals simp only [opX, List.mem_cons, List.not_mem_nil, or_false, forall_eq_or_imp, forall_eq] at h
 all_goals simp only [evP]
 all_goals first
  | rfl
  | rw [XV_noG (G := G) h]
  | rw [XV_noG (G := G) h.1, XV_noG (G := G) h.2]
  | rw [XV_noG (G := G) h.1, XV_noG (G := G) h.2.1, XV_noG (G := G) h.2.2]
theorem evR_no : ∀ (l : List Ins) (fr fr' : Fr), (l.all fun i => (opX i.op).all noGX) = true → evR noGl noHp l fr = some fr' → evR G H l fr = some fr'
 | [], fr, fr', _, h => h
 | i :: l, fr, fr', hn, h => by
   simp only [List.all_cons, Bool.and_eq_true] at hn
   simp only [evR] at h ⊢
   obtain ⟨d, h1, h2⟩ := bindS h
   have h3 : evI G fr H i = some d := by
    unfold evI at h1 ⊢
    have key : ∀ e, evP noGl fr noHp i.op = some e → evP G fr H i.op = some e := fun e he => evP_noH (by rw [← evP_noG hn.1]; exact he)
    split at h1
    · exact key d h1
    · split at h1
      · split at h1
        · rename_i hc; rw [if_pos hc]; exact key d h1
        · rename_i hc; rw [if_neg hc]; exact h1
      · exact h1
      · cases h1
   rw [h3]
   exact evR_no l _ _ hn.2 h2
theorem evC_no : ∀ (n : Nat) (c : CC) (fr : Fr) (p : EX × Fr), noG c = true → evC noGl noHp n c fr = some p → evC G H n c fr = some p := by
 intro n
 induction n with
 | zero => intro c fr p _ h; cases h
 | succ n ih =>
   intro c fr p hn h
   cases c with
   | reg l =>
     simp only [evC, Option.map_eq_some_iff] at h ⊢
     obtain ⟨f, h1, rfl⟩ := h
     exact ⟨f, evR_no l _ _ hn h1, rfl⟩
   | seq a b =>
     simp only [noG, Bool.and_eq_true] at hn
     simp only [evC] at h ⊢
     obtain ⟨⟨e1, f1⟩, h1, h2⟩ := bindS h
     rw [ih a fr _ hn.1 h1]
     cases e1 with
     | normal => exact ih b f1 p hn.2 h2
     | _ => exact h2
   | cond x a b =>
     simp only [noG, Bool.and_eq_true] at hn
     simp only [evC] at h ⊢
     rw [XV_noG (G := G) hn.1.1] at h
     split at h
     · exact ih a fr p hn.1.2 h
     · exact ih b fr p hn.2 h
     · cases h
   | block id c =>
     simp only [evC, Option.map_eq_some_iff] at h ⊢
     obtain ⟨q, h1, rfl⟩ := h
     exact ⟨q, ih c fr q hn h1, rfl⟩
   | loop c =>
     simp only [evC] at h ⊢
     obtain ⟨⟨e1, f1⟩, h1, h2⟩ := bindS h
     rw [ih c fr _ hn h1]
     cases e1 with
     | normal => exact ih (.loop c) f1 p hn h2
     | _ => exact h2
   | scp c => simp only [evC] at h ⊢; exact ih c fr p hn h
   | skip => exact h
   | exit j => exact h
   | ret => exact h
   | draw l a => exact h
   | rng x ps a b => exact h
   | stuck => exact h
theorem evRes_noH : ∀ (rs : List RV) (fr : Fr) (l : List DV), evRes noHp fr rs = some l → evRes H fr rs = some l
 | [], fr, l, h => h
 | .tmp t :: rs, fr, l, h => by
   simp only [evRes] at h ⊢
   obtain ⟨l', h1, h2⟩ := bindS h
   rw [evRes_noH rs fr l' h1]; exact h2
 | .cell t agg sz :: rs, fr, l, h => by
   simp only [evRes] at h ⊢
   obtain ⟨d, h0, h⟩ := bindS h
   obtain ⟨l', h1, h2⟩ := bindS h
   have : ldD H agg sz (fr t) = some d := by
    cases hx : fr t <;> rw [hx] at h0 <;> simp only [ldD, noHp] at h0 ⊢ <;> first | exact h0 | (cases h0)
   rw [this, evRes_noH rs fr l' h1]; exact h2
theorem PF.ev {f : FuncId} {F : FN} (n : Nat) {ds : List DV} {d : DV} (hf : cFn P f = some F) (hl : ds.length ≤ F.N) (hg : noG F.c = true) (h : evFn noGl noHp F n ds = some d) : PF P G f ds d := by
 intro H
 refine CALL.ev (n := n) hf hl ?_
 unfold evFn at h ⊢
 obtain ⟨⟨e, fr'⟩, h1, h2⟩ := bindS h
 rw [evC_no n _ _ _ hg h1]
 cases e with
 | normal =>
   simp only [Option.map_eq_some_iff] at h2
   obtain ⟨l, h3, rfl⟩ := h2
   simp only [Option.bind_some, evRes_noH _ _ _ h3, Option.map_some]
 | ret =>
   simp only [Option.map_eq_some_iff] at h2
   obtain ⟨l, h3, rfl⟩ := h2
   simp only [Option.bind_some, evRes_noH _ _ _ h3, Option.map_some]
 | exit j => simp only at h2; cases h2
 | panic d => simp only at h2; cases h2
def byteTest (F : FN) (n : Nat) (spec : UInt8 → Bool) : Bool :=
 (List.range 256).all fun c => match evFn noGl noHp F n [.int .u8 c] with
  | some (.bool b) => b == spec (UInt8.ofNat c)
  | _ => false
theorem PF.byteTest {f : FuncId} {F : FN} {n : Nat} {spec : UInt8 → Bool} (hf : cFn P f = some F) (hl : 1 ≤ F.N) (hg : noG F.c = true) (h : Go.Run.byteTest F n spec = true) (c : UInt8) : PF P G f [.int .u8 c.toNat] (.bool (spec c)) := by
 refine PF.ev n hf hl hg ?_
 have h1 := List.all_eq_true.1 h c.toNat (by simpa using c.toNat_lt)
 split at h1
 · rename_i b hb
   have : UInt8.ofNat c.toNat = c := by simp
   rw [this] at h1
   rw [hb, eq_of_beq h1]
 · cases h1
end
section
variable {P : Program} {G : Gl} {r : Option Nat} {N : Nat} {w : World} {H : Hp} {Z : Zn}
theorem cOp_s2b {o : Op} {ty : TypeId} {x : X} (h : cOp P o = some (.s2b ty x)) : ∃ s d y, o = .convert s d y ∧ P.underlying s = some .string ∧ P.underlying d = some (.slice ty) ∧ P.underlying ty = some (.int .u8) ∧ x = cX y := by
 cases o
 case convert s d y =>
  simp only [cOp] at h
  split at h <;> first | (cases h; done) | skip
  · split at h <;> first | (cases h; done) | skip
    cases h
    exact ⟨s, d, y, rfl, ‹_›, ‹_›, ‹_›, rfl⟩
  · split at h <;> cases h
 all_goals (first | (cases h; done) | skip)
 all_goals exfalso
 all_goals simp only [cOp] at h
 all_goals repeat' (first | (rw [Option.bind_eq_some_iff] at h; obtain ⟨_, _, h⟩ := h) | split at h)
 all_goals cases h
theorem cOp_b2s {o : Op} {x : X} (h : cOp P o = some (.b2s x)) : ∃ s d e y, o = .convert s d y ∧ P.underlying s = some (.slice e) ∧ P.underlying d = some .string ∧ P.underlying e = some (.int .u8) ∧ x = cX y := by
 cases o
 case convert s d y =>
  simp only [cOp] at h
  split at h <;> first | (cases h; done) | skip
  · split at h <;> cases h
  · split at h <;> first | (cases h; done) | skip
    cases h
    exact ⟨s, d, _, y, rfl, ‹_›, ‹_›, ‹_›, rfl⟩
 all_goals (first | (cases h; done) | skip)
 all_goals exfalso
 all_goals simp only [cOp] at h
 all_goals repeat' (first | (rw [Option.bind_eq_some_iff] at h; obtain ⟨_, _, h⟩ := h) | split at h)
 all_goals cases h
theorem cOp_i2s {o : Op} {x : X} (h : cOp P o = some (.i2s x)) : ∃ s d k y, o = .convert s d y ∧ P.underlying s = some (.int k) ∧ P.underlying d = some .string ∧ x = cX y := by
 cases o
 case convert s d y =>
  simp only [cOp] at h
  split at h <;> first | (cases h; done) | skip
  · split at h <;> cases h
  · split at h <;> cases h
  · cases h; exact ⟨s, d, _, y, rfl, ‹_›, ‹_›, rfl⟩
 all_goals (first | (cases h; done) | skip)
 all_goals exfalso
 all_goals simp only [cOp] at h
 all_goals repeat' (first | (rw [Option.bind_eq_some_iff] at h; obtain ⟨_, _, h⟩ := h) | split at h)
 all_goals cases h
theorem ST.s2b {ty : TypeId} {x : X} {s : List UInt8} {dst : Option Nat} {K : Fr → Hp → Prop} {Q : EX → Fr → Hp → Prop} {fr : Fr} (hx' : XV G fr x = .str s) (h : K (fr.put dst (.lst (s.map B8) s.length 1 none)) H) :
  ST P G r N (.s2b ty x) dst K Q fr H := by
 intro n base w Z a o hc hx hd hr hf
 obtain ⟨sr, ds, y, ho, h1, h2, h3, rfl⟩ := cOp_s2b hc
 simp only [opX, List.all_cons, List.all_nil, Bool.and_true] at hx
 have hv := cX_sound hr hf hx
 rw [hx'] at hv
 obtain ⟨t, ht, hts⟩ := hv.str_inv
 subst hts
 obtain ⟨hr1, hx1⟩ := drewHR hr
 have hrun := run_bytes_of_string (P := P) w sr ds ty t h1 h2 h3
 have hge := grownCap_ge w t.size 0 ty
 generalize grownCap w t.size 0 ty = cap at hrun hge
 obtain ⟨k1, k2⟩ := alloc_imm hr1 (.cells (bytesRow t cap) ty ((bytesRow t cap).size, (bytesRow t cap).size + 1))
 have hlen : t.size = t.data.toList.length := by rw [Array.length_toList]; rfl
 have hnew : (w.drew.alloc (.cells (bytesRow t cap) ty ((bytesRow t cap).size, (bytesRow t cap).size + 1))).heap[w.heap.size]? = some (.cells (bytesRow t cap) ty ((bytesRow t cap).size, (bytesRow t cap).size + 1)) := heap_alloc_new w.drew _
 refine wpIn_value (v := .slice (some ⟨w.heap.size, 0, none⟩) t.size cap) (by rw [ho]; intro c e; cases e) ?_ ⟨_, H, _, h, k1, ?_, hx1.trans k2⟩
 · simp only [execOp, ho, Sem.run_bind, Sem.run_map, ht, hrun, Result.andThen_ok, Sem.run_pure]
 · rw [hd]
   refine (hf.ext hr (hx1.trans k2)).putO ?_
   rw [hlen]
   refine .lst _ _ _ _ _ _ (fun j => .int .u8 ((t.data.toList.getD j 0).toNat : Int)) (by simp) (by omega) (fun j hj => ?_) (fun j hj => rfl) (fun j d hdj => ?_) (fun b off e => by cases e)
   · have hj' : j < t.data.toList.length := by simpa using hj
     refine ⟨_, rfl, rfl, ?_, .inl (.inr rfl)⟩
     rw [cell_of_row _ _ _ _ _ _ hnew]
     simp only [Nat.zero_add]
     have hj2 : j < t.data.size := by simpa using hj'
     rw [bytesRow_at t cap j hj2]
     simp [List.getD, Array.getElem?_eq_getElem hj2]
   · rw [List.getElem?_map] at hdj
     cases e : t.data.toList[j]? with
     | none => rw [e] at hdj; cases hdj
     | some u =>
       rw [e] at hdj
       cases hdj
       simp only [List.getD, e, Option.getD_some, B8]
       exact .int _ _
theorem ST.b2s {x : X} {s : List UInt8} {dst : Option Nat} {tag : Option (Nat × Nat)} {K : Fr → Hp → Prop} {Q : EX → Fr → Hp → Prop} {fr : Fr} (hx' : XV G fr x = .lst (s.map B8) s.length 1 tag) (h : K (fr.put dst (.str s)) H) :
  ST P G r N (.b2s x) dst K Q fr H := by
 intro n base w Z a o hc hx hd hr hf
 obtain ⟨sr, ds, e, y, ho, h1, h2, h3, rfl⟩ := cOp_b2s hc
 simp only [opX, List.all_cons, List.all_nil, Bool.and_true] at hx
 have hv := cX_sound hr hf hx
 rw [hx'] at hv
 obtain ⟨A, c, vs, hA, g1, g2, g3, g4, g5⟩ := hv.lst_inv
 have hrun : (convert sr ds (a.eval y)).run P w = .ok (.string ⟨s.toArray⟩) w := by
  rw [hA]
  by_cases hs : s = []
  · subst hs
    cases A with
    | none => simp [convert, run_underlying h1, run_underlying h2, run_underlying h3, Conv.bytesToString, Result.andThen]; rfl
    | some A => exact run_convert_bytes_back w sr ds e A c [] h1 h3 h2 (fun j hj => by simp at hj)
  · obtain ⟨A', rfl, hcp⟩ := g5 (by simpa using hs)
    refine run_convert_bytes_back w sr ds e A' c s h1 h3 h2 (fun j hj => ?_)
    have hj' : j < (s.map B8).length := by simpa using hj
    obtain ⟨q1, _⟩ := hcp.cell j hj'
    have q2 := hcp.val j (B8 s[j]) (by simp [hj])
    have q3 : vs j = .int .u8 (s[j].toNat : Int) := by
     unfold B8 at q2
     exact q2.int_inv
    rw [← q3, ← q1]
    have : A'.add j = ⟨A'.block, A'.off + j, none⟩ := by
     cases A' with
     | mk b o sp => have := hcp.spot; simp only at this; subst this; simp [Addr.add]
    rw [this]
 refine wpIn_value (v := .string ⟨s.toArray⟩) (by rw [ho]; intro c e; cases e) ?_ ⟨_, H, Z, h, hr, ?_, .refl hr⟩
 · simp only [execOp, ho, Sem.run_bind, Sem.run_map, hrun, Result.andThen_ok, Sem.run_pure]
 · rw [hd]; exact hf.putO (.str _ _ (by simp))
theorem ST.b2s_nil {x : X} {dst : Option Nat} {K : Fr → Hp → Prop} {Q : EX → Fr → Hp → Prop} {fr : Fr} (hx' : XV G fr x = .nils) (h : K (fr.put dst (.str [])) H) : ST P G r N (.b2s x) dst K Q fr H := by
 intro n base w Z a o hc hx hd hr hf
 obtain ⟨sr, ds, e, y, ho, h1, h2, h3, rfl⟩ := cOp_b2s hc
 simp only [opX, List.all_cons, List.all_nil, Bool.and_true] at hx
 have hv := cX_sound hr hf hx
 rw [hx'] at hv
 have hA : a.eval y = .slice none 0 0 := by generalize a.eval y = q at hv; cases hv; rfl
 have hrun : (convert sr ds (a.eval y)).run P w = .ok (.string .empty) w := by
  rw [hA]
  simp [convert, run_underlying h1, run_underlying h2, run_underlying h3, Conv.bytesToString, Result.andThen]
 refine wpIn_value (v := .string .empty) (by rw [ho]; intro c e; cases e) ?_ ⟨_, H, Z, h, hr, ?_, .refl hr⟩
 · simp only [execOp, ho, Sem.run_bind, Sem.run_map, hrun, Result.andThen_ok, Sem.run_pure]
 · rw [hd]; exact hf.putO (.str _ _ rfl)
theorem ST.i2s {x : X} {k : IntKind} {i : Int} {dst : Option Nat} {K : Fr → Hp → Prop} {Q : EX → Fr → Hp → Prop} {fr : Fr} (hx' : XV G fr x = .int k i) (h : K (fr.put dst (.str (Utf8.encode i).data.toList)) H) : ST P G r N (.i2s x) dst K Q fr H := by
 intro n base w Z a o hc hx hd hr hf
 obtain ⟨sr, ds, e, y, ho, h1, h2, rfl⟩ := cOp_i2s hc
 simp only [opX, List.all_cons, List.all_nil, Bool.and_true] at hx
 have hv := cX_sound hr hf hx
 rw [hx'] at hv
 have hA := hv.int_inv
 have hrun : (convert sr ds (a.eval y)).run P w = .ok (.string (Utf8.encode i)) w := by
  rw [hA]
  simp [convert, run_underlying h1, run_underlying h2, Conv.intToString, Result.andThen]
 refine wpIn_value (v := .string (Utf8.encode i)) (by rw [ho]; intro c e; cases e) ?_ ⟨_, H, Z, h, hr, ?_, .refl hr⟩
 · simp only [execOp, ho, Sem.run_bind, Sem.run_map, hrun, Result.andThen_ok, Sem.run_pure]
 · rw [hd]; exact hf.putO (.str _ _ rfl)
theorem ST.ext {f : FuncId} {xs : List X} {fn : Func} {e : Array Value → Sem Value} {d : DV} {dst : Option Nat} {K : Fr → Hp → Prop} {Q : EX → Fr → Hp → Prop} {fr : Fr} (hf' : P.funcs[f]? = some fn) (hb : fn.body = none) (hnm : (fn.name == "runtime.NumGoroutine") = false)
  (hn : Extern.findNext fn = none) (he : Extern.find fn = some e)
  (hrun : ∀ (w : World) (Z : Zn) (vs : Array Value), HR G w H Z → vs.size = xs.length → (∀ (j : Nat) (v : Value) (d : DV), vs[j]? = some v → (xs.map (XV G fr))[j]? = some d → VR w H Z v d) → ∃ v, (e vs).run P w = .ok v w ∧ VR w H Z v d)
  (h : K (fr.put dst d) H) : ST P G r N (.call f xs) dst K Q fr H := by
 intro n base w Z a o hc hx hd hr hf
 obtain ⟨c, ho, hcal, rfl⟩ := cOp_call hc
 obtain ⟨h1, h2⟩ := vr_map hr hf c.args (by simpa [opX] using hx)
 obtain ⟨v, k1, k2⟩ := hrun w Z (c.args.map a.eval) hr (by simp) (by simpa [List.map_map, Function.comp_def] using h2)
 refine wpIn_value (v := v) (by rw [ho]; intro c e; cases e) ?_ ⟨_, H, Z, h, hr, by rw [hd]; exact hf.putO k2, .refl hr⟩
 simp only [execOp, ho, resolve, hcal, Act.eval, Deferred.ofValue, Sem.run_bind, Sem.run_pure, Result.andThen_ok, invoke, Array.empty_append, Array.append_empty]
 simp only [callFunc, Sem.run_bind, run_program, Result.andThen_ok, hf', hnm, hb, Option.isNone_none, Bool.false_eq_true, if_false, if_true, hn, he, mark, Sem.run, k1, Sem.run_pure]
end
end Go.Run
