/- Part 4 of a proof: texts M3 M4 M5 N0. -/
import Derived.Test.YthmjdmianbobbaaGreatDoorWC
namespace Go.Run
open Go Go.RowKit
section
variable {P : Program} {G : Gl} {r : Option Nat} {N : Nat}
variable (P G r N) in
def QV (i : Ins) (fr : Fr) (H : Hp) (d : DV) : Prop := ∀ (fr1 : Fr) (l : List Ins) (Q : EX → Fr → Hp → Prop), (∀ t ∈ slotsI i, fr1 t = fr t) → RG P G r N l Q (fr1.put i.dst d) H → RG P G r N (i :: l) Q fr1 H
theorem QV.congr {i : Ins} {fr fr' : Fr} {H : Hp} {d : DV} (h : QV P G r N i fr H d) (hs : ∀ t ∈ slotsI i, fr' t = fr t) : QV P G r N i fr' H d :=
 fun fr1 l Q h1 k => h fr1 l Q (fun t ht => (h1 t ht).trans (hs t ht)) k
theorem QV.of {i : Ins} {fr : Fr} {H : Hp} {d : DV} (h : evI G fr H i = some d) : QV P G r N i fr H d :=
 fun fr1 l Q h1 k => RG.ev ((evI_congr h1).trans h) k
variable (P G r N) in
def StabP (fr : Fr) (H : Hp) (i : Ins) : Prop := ∃ d, QV P G r N i fr H d ∧ ∀ t, i.dst = some t → fr t = d
variable (P G r N) in
inductive VP (l : List Ins) (dep : Nat → List Nat) (eff : List Nat) (Q : EX → Fr → Hp → Prop) : List Nat → List Nat → Fr → Hp → Prop
 | val {V pend : List Nat} {fr : Fr} {H : Hp} (i : Nat) (x : Ins) {d : DV} (hx : l[i]? = some x) (he : i ∉ eff) (hv : i ∉ V) (hd : ∀ j ∈ dep i, j ∈ V) (hs : QV P G r N x fr H d)
   (k : VP l dep eff Q (i :: V) (i :: pend) (fr.put x.dst d) H) : VP l dep eff Q V pend fr H
 | effs {V pend : List Nat} {fr : Fr} {H : Hp} (A : List Nat) (X : Nat → Ins) (K Kp : Nat → DV → Hp → Prop) (hA : A ≠ []) (hx : ∀ i ∈ A, l[i]? = some (X i) ∧ i ∈ eff ∧ i ∉ V ∧ ∀ j ∈ dep i, j ∈ V)
   (ho : ∀ j, j < l.length → j ∉ V → (∀ k ∈ dep j, k ∈ V) → j ∈ A)
   (hs : ∀ i ∈ A, EF P G r N (X i) (K i) (Kp i) fr H) (hp : ∀ i ∈ A, ∀ d fr' H', Kp i d H' → Q (.panic d) fr' H')
   (hst : ∀ i ∈ A, ∀ d H', K i d H' → ∀ j ∈ pend, j ∉ dep i → ∀ y, l[j]? = some y → StabP P G r N (fr.put (X i).dst d) H' y)
   (k : ∀ i ∈ A, ∀ d H', K i d H' → VP l dep eff Q (i :: V) (pend.filter fun j => !(dep i).contains j) (fr.put (X i).dst d) H') : VP l dep eff Q V pend fr H
 | done {V pend : List Nat} {fr : Fr} {H : Hp} (ha : ∀ j, j < l.length → j ∈ V) (hq : Q .normal fr H) : VP l dep eff Q V pend fr H
variable (P G r N) in
structure BehP (l : List Ins) (dep : Nat → List Nat) (eff V pend R : List Nat) (fr fr1 : Fr) (H : Hp) : Prop where
 sub : ∀ i ∈ R, i ∈ V
 pnd : ∀ i ∈ V, i ∉ R → i ∈ pend
 pe : ∀ i ∈ pend, i ∉ eff
 vd : ∀ i ∈ V, ∀ j ∈ dep i, j ∈ V
 vl : ∀ i ∈ V, i < l.length
 mask : ∀ t, fr1 t = fr t ∨ ∃ (i : Nat) (x : Ins), i ∈ V ∧ i ∉ R ∧ l[i]? = some x ∧ x.dst = some t
 st : ∀ i ∈ V, i ∉ R → ∀ x, l[i]? = some x → StabP P G r N fr H x
section
variable {l : List Ins} {dep : Nat → List Nat} {eff V pend R : List Nat} {fr fr1 : Fr} {H : Hp}
theorem BehP.slot (hok : okD l dep eff) (hb : BehP P G r N l dep eff V pend R fr fr1 H) {j : Nat} {y : Ins} (hy : l[j]? = some y) (hd : ∀ k ∈ dep j, k ∈ R) : ∀ t ∈ slotsI y, fr1 t = fr t := by
 intro t ht
 rcases hb.mask t with h | ⟨i, x, h1, h2, h3, h4⟩
 · exact h
 · rcases hok.2 i j x y t h3 hy h4 ht with h | ⟨_, h⟩
   · exact absurd (hd i h) h2
   · exact absurd h (hb.pe i (hb.pnd i h1 h2))
theorem BehP.pending (hok : okD l dep eff) (hb : BehP P G r N l dep eff V pend R fr fr1 H) {j : Nat} (hj : j ∈ V) (hjR : j ∉ R) {y : Ins} (hy : l[j]? = some y) (hd : ∀ k ∈ dep j, k ∈ R) :
  ∃ d, QV P G r N y fr1 H d ∧ BehP P G r N l dep eff V pend (j :: R) fr (fr1.put y.dst d) H := by
 obtain ⟨d, h1, h2⟩ := hb.st j hj hjR y hy
 refine ⟨d, h1.congr (hb.slot hok hy hd), ?_⟩
 refine ⟨fun i hi => ?_, fun i hi hr => hb.pnd i hi (fun h => hr (by simp [h])), hb.pe, hb.vd, hb.vl, fun t => ?_, fun i hi hr x hx => hb.st i hi (fun h => hr (by simp [h])) x hx⟩
 · rcases List.mem_cons.1 hi with rfl | hi
   · exact hj
   · exact hb.sub i hi
 · by_cases ht : y.dst = some t
   · left; rw [ht, Fr.put_eq, h2 t ht]
   · rw [Fr.put_ne ht]
     rcases hb.mask t with h | ⟨i, x, k1, k2, k3, k4⟩
     · exact .inl h
     · right
       refine ⟨i, x, k1, fun h => ?_, k3, k4⟩
       rcases List.mem_cons.1 h with rfl | h
       · rw [hy] at k3; cases k3; exact ht k4
       · exact k2 h
theorem VP.sound {Q : EX → Fr → Hp → Prop} (hok : okD l dep eff) (h : VP P G r N l dep eff Q V pend fr H) : ∀ (π R : List Nat) (fr1 : Fr), Lin l.length dep R π → BehP P G r N l dep eff V pend R fr fr1 H →
  RG P G r N (π.filterMap (l[·]?)) Q fr1 H := by
 induction h with
 | @val V pend fr H i x d hx he hv hd hs k ih =>
   intro π R fr1 hl hb
   have hself : ∀ (j : Nat) (y : Ins), l[j]? = some y → j ∈ V ∨ j = i → ∀ t ∈ slotsI y, x.dst ≠ some t := by
    intro j y hy hj t ht e
    rcases hok.2 i j x y t hx hy e ht with h | ⟨_, h⟩
    · rcases hj with hj | hj
      · exact hv (hb.vd j hj i h)
      · subst hj; exact hv (hd j h)
    · exact he h
   refine ih π R fr1 hl ⟨fun j hj => by simp [hb.sub j hj], fun j hj hr => ?_, fun j hj => ?_, fun j hj k' hk => ?_, fun j hj => ?_, fun t => ?_, fun j hj hr y hy => ?_⟩
   · rcases List.mem_cons.1 hj with rfl | hj
     · simp
     · simp [hb.pnd j hj hr]
   · rcases List.mem_cons.1 hj with rfl | hj
     · exact he
     · exact hb.pe j hj
   · rcases List.mem_cons.1 hj with rfl | hj
     · simp [hd _ hk]
     · simp [hb.vd j hj _ hk]
   · rcases List.mem_cons.1 hj with rfl | hj
     · exact (List.getElem?_eq_some_iff.1 hx).1
     · exact hb.vl j hj
   · by_cases ht : x.dst = some t
     · right; exact ⟨i, x, by simp, fun h => hv (hb.sub i h), hx, ht⟩
     · rw [Fr.put_ne ht]
       rcases hb.mask t with h | ⟨j, y, k1, k2, k3, k4⟩
       · exact .inl h
       · exact .inr ⟨j, y, by simp [k1], k2, k3, k4⟩
   · rcases List.mem_cons.1 hj with rfl | hj
     · rw [hx] at hy
       cases hy
       refine ⟨d, ?_, fun t ht => by rw [ht, Fr.put_eq]⟩
       exact hs.congr fun t ht => Fr.put_ne (hself j x hx (.inr rfl) t ht)
     · obtain ⟨d', h1, h2⟩ := hb.st j hj hr y hy
       refine ⟨d', ?_, fun t ht => ?_⟩
       · exact h1.congr fun t ht => Fr.put_ne (hself j y hy (.inl hj) t ht)
       · rw [← h2 t ht]
         refine Fr.put_ne fun e => ?_
         have := hok.1 i j x y t hx hy e ht
         exact hv (this ▸ hj)
 | @effs V pend fr H A X K Kp hA hxa ho hs hp hst k ih =>
   intro π
   induction π with
   | nil =>
     intro R fr1 hl hb
     obtain ⟨i, hi⟩ := List.exists_mem_of_ne_nil A hA
     obtain ⟨hx, _, hv, _⟩ := hxa i hi
     exact absurd (hb.sub i (hl i (List.getElem?_eq_some_iff.1 hx).1)) hv
   | cons j π ihπ =>
     intro R fr1 hl hb
     obtain ⟨hj, hjR, hjd, hl'⟩ := hl
     have hy : l[j]? = some l[j] := List.getElem?_eq_getElem hj
     rw [List.filterMap_cons, hy]
     by_cases hjV : j ∈ V
     · obtain ⟨d, h1, h2⟩ := hb.pending hok hjV hjR hy hjd
       exact h1 _ _ _ (fun _ _ => rfl) (ihπ _ _ hl' h2)
     · have hji := ho j hj hjV (fun k hk => hb.sub k (hjd k hk))
       obtain ⟨hx, he, hv, hd⟩ := hxa j hji
       rw [hx] at hy
       have hy := Option.some.inj hy
       rw [← hy]
       refine hs j hji fr1 _ Q (hb.slot hok hx hjd) (fun d H' hK => ?_) (hp j hji)
       refine ih j hji d H' hK π _ _ hl' ⟨fun k hk => ?_, fun k hk hr => ?_, fun k hk => ?_, fun a ha b hb' => ?_, fun a ha => ?_, fun t => ?_, fun a ha hr y hy => ?_⟩
       · rcases List.mem_cons.1 hk with rfl | hk
         · simp
         · simp [hb.sub k hk]
       · have hkR : k ∉ R := fun h => hr (by simp [h])
         rcases List.mem_cons.1 hk with rfl | hk
         · exact absurd (by simp) hr
         · rw [List.mem_filter]
           refine ⟨hb.pnd k hk hkR, ?_⟩
           have : k ∉ dep j := fun h => hkR (hjd k h)
           simpa using this
       · exact hb.pe k (List.mem_filter.1 hk).1
       · rcases List.mem_cons.1 ha with rfl | ha
         · simp [hd b hb']
         · simp [hb.vd a ha b hb']
       · rcases List.mem_cons.1 ha with rfl | ha
         · exact hj
         · exact hb.vl a ha
       · by_cases ht : (X j).dst = some t
         · left; rw [ht, Fr.put_eq, Fr.put_eq]
         · rw [Fr.put_ne ht, Fr.put_ne ht]
           rcases hb.mask t with h | ⟨a, y, k1, k2, k3, k4⟩
           · exact .inl h
           · refine .inr ⟨a, y, by simp [k1], fun h => ?_, k3, k4⟩
             rcases List.mem_cons.1 h with rfl | h
             · exact hv k1
             · exact k2 h
       · have haR : a ∉ R := fun h => hr (by simp [h])
         rcases List.mem_cons.1 ha with rfl | ha
         · exact absurd (by simp) hr
         · exact hst j hji d H' hK a (hb.pnd a ha haR) (fun h => haR (hjd a h)) y hy
 | @done V pend fr H ha hq =>
   intro π
   induction π with
   | nil =>
     intro R fr1 hl hb
     refine RG.nil ?_
     have : fr1 = fr := by
      funext t
      rcases hb.mask t with h | ⟨i, x, h1, h2, h3, h4⟩
      · exact h
      · exact absurd (hl i (List.getElem?_eq_some_iff.1 h3).1) h2
     rw [this]; exact hq
   | cons j π ihπ =>
     intro R fr1 hl hb
     obtain ⟨hj, hjR, hjd, hl'⟩ := hl
     have hy : l[j]? = some l[j] := List.getElem?_eq_getElem hj
     rw [List.filterMap_cons, hy]
     obtain ⟨d, h1, h2⟩ := hb.pending hok (ha j hj) hjR hy hjd
     exact h1 _ _ _ (fun _ _ => rfl) (ihπ _ _ hl' h2)
end
theorem AC.drawP {l : List Ins} {aft : List (List Nat)} (eff : List Nat) {Q : EX → Fr → Hp → Prop} {fr : Fr} {H : Hp} (hok : okDb l aft eff = true) (h : VP P G r N l (depL aft) eff Q [] [] fr H) :
  AC P G r N (.draw l aft) Q fr H :=
 AC.draw fun π hl => h.sound (okDb_sound hok) π [] fr hl ⟨fun i hi => by simp at hi, fun i hi => by simp at hi, fun i hi => by simp at hi, fun i hi => by simp at hi, fun i hi => by simp at hi, fun t => .inl rfl, fun i hi => by simp at hi⟩
end
section
variable {P : Program} {G : Gl} {r : Option Nat} {N : Nat} {is : List Ins} {dep : Nat → List Nat} {eff V pend : List Nat} {Q : EX → Fr → Hp → Prop} {fr : Fr} {H : Hp} {dst : Option Nat}
variable {g : Option (Nat × Bool)}
theorem GOk.congr {i : Ins} {fr1 : Fr} (h : GOk i.g fr) (hs : ∀ t ∈ slotsI i, fr1 t = fr t) : GOk i.g fr1 := by
 unfold GOk at h ⊢
 cases e : i.g with
 | none => trivial
 | some p =>
   obtain ⟨t, b⟩ := p
   rw [e] at h
   exact (hs t (by unfold slotsI; rw [e]; simp)).trans h
theorem QV.evP {op : OP} {d : DV} (hg : GOk g fr) (h : evP G fr H op = some d) : QV P G r N ⟨dst, g, op⟩ fr H d := by
 refine QV.of ?_
 unfold evI
 cases g with
 | none => exact h
 | some p =>
   obtain ⟨t, b⟩ := p
   have ht : fr t = .bool b := hg
   simp only [ht, if_true]; exact h
theorem QV.callP {f : FuncId} {xs : List X} {ds : List DV} {d : DV} (hg : GOk g fr) (hx : xs.map (XV G fr) = ds) (h : PF P G f ds d) : QV P G r N ⟨dst, g, .call f xs⟩ fr H d := by
 intro fr1 l Q hs k
 have e : xs.map (XV G fr1) = ds := by
  rw [← hx]
  exact mapXV_congr xs fun x hx => XV_congr fun t ht => hs t (by
   unfold slotsI; exact List.mem_append_left _ (List.mem_flatMap.2 ⟨x, hx, ht⟩))
 exact RG.callP (GOk.congr (i := ⟨dst, g, .call f xs⟩) hg hs) e h k
theorem QV.gn {op : OP} {t : Nat} {b : Bool} (hg : fr t = .bool (!b)) : QV P G r N ⟨dst, some (t, b), op⟩ fr H (.tup []) := QV.of (by simp only [evI, hg]; cases b <;> rfl)
theorem VP.q {x : Ins} {d : DV} (i : Nat) (k : VP P G r N is dep eff Q (i :: V) (i :: pend) (fr.put x.dst d) H) (hx : is[i]? = some x := by exact rfl) (hok : vdOk dep eff V i = true := by exact rfl) (hs : QV P G r N x fr H d) : VP P G r N is dep eff Q V pend fr H := by
 unfold vdOk at hok
 simp only [Bool.and_eq_true, Bool.not_eq_true', List.all_eq_true] at hok
 exact VP.val i _ hx (by have := hok.1.1; simpa using this) (by have := hok.1.2; simpa using this) (fun j hj => by have := hok.2 j hj; simpa using this) hs k
theorem VP.pe {x : Ins} {K Kp : DV → Hp → Prop} (i : Nat) (hx : is[i]? = some x) (hok : vdOne is.length dep eff V i = true) (hs : EF P G r N x K Kp fr H)
  (hp : ∀ d fr' H', Kp d H' → Q (.panic d) fr' H')
  (k : ∀ d H', K d H' → (∀ j ∈ pend.filter fun j => !(dep i).contains j, ∀ y, is[j]? = some y → StabP P G r N (fr.put x.dst d) H' y) ∧ VP P G r N is dep eff Q (i :: V) (pend.filter fun j => !(dep i).contains j) (fr.put x.dst d) H') : VP P G r N is dep eff Q V pend fr H := by
 unfold vdOne at hok
 simp only [Bool.and_eq_true, Bool.not_eq_true', List.all_eq_true, Bool.or_eq_true] at hok
 obtain ⟨⟨⟨h1, h2⟩, h3⟩, h4⟩ := hok
 refine VP.effs [i] (fun _ => x) (fun _ => K) (fun _ => Kp) (by simp) (fun a ha => ?_) (fun j hj hjV hd => ?_) (fun a ha => hs) (fun a ha => hp) (fun a ha d H' hK j hj hji y hy => (k d H' hK).1 j ?_ y hy) (fun a ha d H' hK => ?_)
 · rw [List.mem_singleton.1 ha]
   exact ⟨hx, by simpa using h1, by simpa using h2, fun j hj => by have := h3 j hj; simpa using this⟩
 rotate_left 2
 · rw [List.mem_singleton.1 ha]
   exact (k d H' hK).2
 · rw [List.mem_singleton]
   rcases h4 j (by simpa using hj) with (h | h) | h
   · simpa using h
   · exact absurd (by simpa using h) hjV
   · have e : (dep j).all V.contains = true := List.all_eq_true.2 fun k hk => by simpa using hd k hk
     rw [e] at h; cases h
 · rw [List.mem_singleton.1 ha] at hji; rw [List.mem_filter]; exact ⟨hj, by simpa using hji⟩
theorem VP.pd (hq : Q .normal fr H) (ha : (List.range is.length).all (fun j => V.contains j) = true := by exact rfl) : VP P G r N is dep eff Q V pend fr H :=
 VP.done (fun j hj => by have := List.all_eq_true.1 ha j (by simpa using hj); simpa using this) hq
theorem stabP_nil {is : List Ins} {H' : Hp} {fr' : Fr} : ∀ j ∈ ([] : List Nat), ∀ y, is[j]? = some y → StabP P G r N fr' H' y := fun j hj => by simp at hj
theorem stabP_cons {is : List Ins} {H' : Hp} {fr' : Fr} {j : Nat} {js : List Nat} {y : Ins} (hy : is[j]? = some y) (h : StabP P G r N fr' H' y) (hs : ∀ j ∈ js, ∀ y, is[j]? = some y → StabP P G r N fr' H' y) : ∀ k ∈ (j :: js), ∀ y, is[k]? = some y → StabP P G r N fr' H' y := by
 intro k hk z hz
 rcases List.mem_cons.1 hk with rfl | hk
 · rw [hy] at hz; cases hz; exact h
 · exact hs k hk z hz
theorem StabP.of {g : Option (Nat × Bool)} {op : OP} {t : Nat} {d : DV} (h : QV P G r N ⟨some t, g, op⟩ fr H d) (ht : fr t = d) : StabP P G r N fr H ⟨some t, g, op⟩ := ⟨d, h, fun u hu => by cases hu; exact ht⟩
end
section
variable {P : Program} {G : Gl} {r : Option Nat} {N : Nat} {dst : Option Nat} {l : List Ins} {Q : EX → Fr → Hp → Prop} {fr : Fr} {H : Hp} {x y : X} {g : Option (Nat × Bool)}
theorem RG.bslF {ty len sz : Nat} {zs cs : List DV} {ps : List (Nat × Nat × X)} (hg : GOk g fr) (hb : bldD (XV G fr) ps zs = some cs) (k : RG P G r N l Q (fr.put dst (.lst cs len sz none)) H) : RG P G r N (⟨dst, g, .bsl ty len sz zs ps⟩ :: l) Q fr H :=
 RG.s hg (ST.bsl hb fun _ h => RG.drop (SubH.fresh h) (RG.leSet DLe.tag k))
theorem RG.zD {ty len sz : Nat} {zs cs : List DV} {ps : List (Nat × Nat × X)} (k : RG P G r N l Q (fr.put dst (.lst cs len sz none)) H) (hg : GOk g fr := by first | exact trivial | exact rfl) (hb : bldD (XV G fr) ps zs = some cs := by conv => lhs; whnf) : RG P G r N (⟨dst, g, .bsl ty len sz zs ps⟩ :: l) Q fr H := RG.bslF hg hb k
theorem XV_slots {i : Ins} {fr1 : Fr} (hs : ∀ t ∈ slotsI i, fr1 t = fr t) {z : X} (hz : z ∈ opX i.op) : XV G fr1 z = XV G fr z := XV_congr fun t ht => hs t (by
 unfold slotsI; exact List.mem_append_left _ (List.mem_flatMap.2 ⟨z, hz, ht⟩))
theorem QV.bsl {ty len sz : Nat} {zs cs : List DV} {ps : List (Nat × Nat × X)} (hg : GOk g fr) (hb : bldD (XV G fr) ps zs = some cs) : QV P G r N ⟨dst, g, .bsl ty len sz zs ps⟩ fr H (.lst cs len sz none) := by
 intro fr1 l Q hs k
 refine RG.bslF (GOk.congr (i := ⟨dst, g, .bsl ty len sz zs ps⟩) hg hs) ?_ k
 rw [← hb]
 exact bldD_congr ps zs fun p hp => XV_slots (i := ⟨dst, g, .bsl ty len sz zs ps⟩) hs (by simp only [opX, List.mem_map]; exact ⟨p, hp, rfl⟩)
theorem EF.sto {b off sz : Nat} {d : DV} {cs ys : List DV} {ty : TypeId} (hg : GOk g fr) (hx : XV G fr x = .ptr b off) (hb : H b = some (.cells cs ty)) (hy : XV G fr y = d) (hc : cellsD d = some ys) (hl : ys.length = sz) (hle : off + sz ≤ cs.length) :
  EF P G r N ⟨dst, g, .st sz x y⟩ (fun d' H' => d' = .junk ∧ H' = H.upd b (some (.cells (spliceL off ys cs) ty))) (fun _ _ => False) fr H := by
 intro fr1 l Q hs k kp
 exact RG.sto (GOk.congr (i := ⟨dst, g, .st sz x y⟩) hg hs) ((XV_slots (i := ⟨dst, g, .st sz x y⟩) hs (by simp [opX])).trans hx) hb ((XV_slots (i := ⟨dst, g, .st sz x y⟩) hs (by simp [opX])).trans hy) hc hl hle (k _ _ ⟨rfl, rfl⟩)
theorem EF.sto1 {b : Nat} {d old : DV} {ty : TypeId} (hg : GOk g fr) (hx : XV G fr x = .ptr b 0) (hb : H b = some (.cells [old] ty)) (hy : XV G fr y = d) (hc : cellsD d = some [d]) :
  EF P G r N ⟨dst, g, .st 1 x y⟩ (fun d' H' => d' = .junk ∧ H' = H.upd b (some (.cells [d] ty))) (fun _ _ => False) fr H :=
 EF.sto hg hx hb hy hc rfl (by exact Nat.le_refl _)
theorem EF.app {ty sz bytes n m : Nat} {H0 : Hp} {cs ys : List DV} {v : DV} (hg : GOk g fr) (h : GR ty sz H0 cs n v H) (hx : XV G fr x = v)
  (hy : srcD H sz (XV G fr y) = some (ys, m)) (hlen : (n + m) * bytes ≤ 140737488355328) (h0 : m = 0 → ys = []) :
  EF P G r N ⟨dst, g, .app ty sz bytes x y⟩ (fun v' H' => GR ty sz H0 (cs ++ ys) (n + m) v' H') (fun _ _ => False) fr H := by
 intro fr1 l Q hs k kp
 exact GR.app (GOk.congr (i := ⟨dst, g, .app ty sz bytes x y⟩) hg hs) h ((XV_slots (i := ⟨dst, g, .app ty sz bytes x y⟩) hs (by simp [opX])).trans hx) (by rw [XV_slots (i := ⟨dst, g, .app ty sz bytes x y⟩) hs (by simp [opX])]; exact hy) hlen h0 (fun v' H' hk => k v' H' hk)
def GW (ty : TypeId) (sz : Nat) (H : Hp) (cs : List DV) (n : Nat) (v : DV) (H' : Hp) : Prop :=
 (n = 0 ∧ cs = [] ∧ v = .nils ∧ H' = H) ∨ ∃ b cap rest, H b = none ∧ v = .win b 0 n cap ∧ cs.length = n * sz ∧ (cs ++ rest).length = cap * sz ∧ H' = H.upd b (some (.cells (cs ++ rest) ty))
theorem GW.nil {ty : TypeId} {sz : Nat} {H : Hp} : GW ty sz H [] 0 .nils H := .inl ⟨rfl, rfl, rfl, rfl⟩
theorem GW.cells {ty : TypeId} {sz n : Nat} {H H' : Hp} {cs : List DV} {v : DV} (h : GW ty sz H cs n v H') : cellsD v = some [v] := by
 rcases h with ⟨_, _, rfl, _⟩ | ⟨b, cap, rest, _, rfl, _, _, _⟩ <;> rfl
theorem GW.look {ty : TypeId} {sz n : Nat} {H H' : Hp} {cs : List DV} {v : DV} (h : GW ty sz H cs n v H') {k : Nat} {o : DO} (hk : H k = some o) : H' k = some o := by
 rcases h with ⟨_, _, _, rfl⟩ | ⟨b, cap, rest, hb, _, _, _, rfl⟩
 · exact hk
 · rw [Hp.upd_ne (fun e => by subst e; rw [hb] at hk; cases hk)]; exact hk
theorem GW.set {ty : TypeId} {sz n : Nat} {H H' : Hp} {cs : List DV} {v : DV} (h : GW ty sz H cs n v H') {k : Nat} {o o' : DO} (hk : H k = some o) : GW ty sz (H.upd k (some o')) cs n v (H'.upd k (some o')) := by
 rcases h with ⟨h0, h1, h2, rfl⟩ | ⟨b, cap, rest, hb, h2, h3, h4, rfl⟩
 · exact .inl ⟨h0, h1, h2, rfl⟩
 · have hne : b ≠ k := fun e => by rw [e] at hb; rw [hb] at hk; cases hk
   exact .inr ⟨b, cap, rest, by rw [Hp.upd_ne hne]; exact hb, h2, h3, h4, Hp.upd_comm hne⟩
theorem GW.len {ty : TypeId} {sz n : Nat} {H H' HX : Hp} {cs : List DV} {v : DV} {fr : Fr} {x : X} (h : GW ty sz H cs n v H') (hx : XV G fr x = v) : evP G fr HX (.len false x) = some (.int .i64 n) := by
 rcases h with ⟨rfl, rfl, rfl, _⟩ | ⟨b, cap, rest, _, rfl, _⟩ <;> simp [evP, hx, lenD]
theorem GW.app {ty : TypeId} {sz bytes n m : Nat} {H HL : Hp} {cs ys : List DV} {v : DV} (hg : GOk g fr) (h : GW ty sz H cs n v HL) (hx : XV G fr x = v) (hyl : ys.length = m * sz)
  (hy : srcD HL sz (XV G fr y) = some (ys, m)) (hlen : (n + m) * bytes ≤ 140737488355328) (hm : 0 < m)
  (k : ∀ v' HL', GW ty sz H (cs ++ ys) (n + m) v' HL' → RG P G r N l Q (fr.put dst v') HL') : RG P G r N (⟨dst, g, .app ty sz bytes x y⟩ :: l) Q fr HL := by
 rcases h with ⟨rfl, rfl, rfl, rfl⟩ | ⟨b, cap, rest, hb, rfl, h3, h4, rfl⟩
 · refine RG.s hg (ST.app_w0 hx hy hm (by rw [Nat.zero_add] at hlen; exact hlen) fun b cap rest hb _ hr => k _ _ (.inr ⟨b, cap, rest, hb, ?_, ?_, ?_, ?_⟩))
   · rw [Nat.zero_add]
   · rw [List.nil_append, Nat.zero_add]; exact hyl
   · rw [List.nil_append]; exact hr
   · rw [List.nil_append]
 · refine RG.s hg (ST.app_w hx Hp.upd_same h3 h4 hy hlen fun b' cap' rest' hb' hc' hr' => ?_)
   have e1 : (H.upd b (some (.cells (cs ++ rest) ty))).upd b none = H := by rw [Hp.upd_upd]; exact Hp.upd_id hb
   rw [e1]
   refine k _ _ (.inr ⟨b', cap', rest', ?_, rfl, by rw [List.length_append, h3, hyl, Nat.add_mul], hr', rfl⟩)
   rcases hb' with rfl | hb'
   · exact hb
   · have hne : b' ≠ b := fun e => by rw [e, Hp.upd_same] at hb'; cases hb'
     rw [Hp.upd_ne hne] at hb'; exact hb'
theorem EF.appw {ty : TypeId} {sz bytes n m : Nat} {H0 : Hp} {cs ys : List DV} {v : DV} (hg : GOk g fr) (h : GW ty sz H0 cs n v H) (hx : XV G fr x = v) (hyl : ys.length = m * sz)
  (hy : srcD H sz (XV G fr y) = some (ys, m)) (hlen : (n + m) * bytes ≤ 140737488355328) (hm : 0 < m) :
  EF P G r N ⟨dst, g, .app ty sz bytes x y⟩ (fun v' H' => GW ty sz H0 (cs ++ ys) (n + m) v' H') (fun _ _ => False) fr H := by
 intro fr1 l Q hs k kp
 exact GW.app (GOk.congr (i := ⟨dst, g, .app ty sz bytes x y⟩) hg hs) h ((XV_slots (i := ⟨dst, g, .app ty sz bytes x y⟩) hs (by simp [opX])).trans hx) hyl (by rw [XV_slots (i := ⟨dst, g, .app ty sz bytes x y⟩) hs (by simp [opX])]; exact hy) hlen hm (fun v' H' hk => k v' H' hk)
section
variable {is : List Ins} {dep : Nat → List Nat} {eff V pend : List Nat}
theorem VP.z0 {d : DV} (i : Nat) (k : VP P G r N is dep eff Q (i :: V) (i :: pend) (fr.put dst d) H) (hx : is[i]? = some ⟨dst, g, .mv x⟩ := by exact rfl) (hok : vdOk dep eff V i = true := by exact rfl) (hg : GOk g fr := by first | exact trivial | exact rfl) (hs : XV G fr x = d := by conv => lhs; whnf) : VP P G r N is dep eff Q V pend fr H := VP.q i k hx hok (QV.evP hg (by simp only [evP, hs]))
theorem VP.z5 {op : OP} {d : DV} (i : Nat) (k : VP P G r N is dep eff Q (i :: V) (i :: pend) (fr.put dst d) H) (hx' : is[i]? = some ⟨dst, g, op⟩ := by exact rfl) (hok : vdOk dep eff V i = true := by exact rfl) (hg : GOk g fr := by first | exact trivial | exact rfl) (hs : evP G fr H op = some d := by conv => lhs; whnf) : VP P G r N is dep eff Q V pend fr H := VP.q i k hx' hok (QV.evP hg hs)
theorem VP.z6 {op : OP} {t : Nat} {b : Bool} (i : Nat) (k : VP P G r N is dep eff Q (i :: V) (i :: pend) (fr.put dst (.tup [])) H) (hx' : is[i]? = some ⟨dst, some (t, b), op⟩ := by exact rfl) (hok : vdOk dep eff V i = true := by exact rfl) (hg : fr t = .bool (!b) := by exact rfl) : VP P G r N is dep eff Q V pend fr H := VP.q i k hx' hok (QV.gn hg)
theorem VP.z8 {ty len sz : Nat} {zs cs : List DV} {ps : List (Nat × Nat × X)} (i : Nat) (k : VP P G r N is dep eff Q (i :: V) (i :: pend) (fr.put dst (.lst cs len sz none)) H) (hx' : is[i]? = some ⟨dst, g, .bsl ty len sz zs ps⟩ := by exact rfl) (hok : vdOk dep eff V i = true := by exact rfl) (hg : GOk g fr := by first | exact trivial | exact rfl) (hb : bldD (XV G fr) ps zs = some cs := by conv => lhs; whnf) : VP P G r N is dep eff Q V pend fr H := VP.q i k hx' hok (QV.bsl hg hb)
theorem VP.c {f : FuncId} {xs : List X} {ds : List DV} {d : DV} (i : Nat) (hp : PF P G f ds d) (k : VP P G r N is dep eff Q (i :: V) (i :: pend) (fr.put dst d) H) (hx' : is[i]? = some ⟨dst, g, .call f xs⟩ := by exact rfl) (hok : vdOk dep eff V i = true := by exact rfl) (hg : GOk g fr := by first | exact trivial | exact rfl) (hx : xs.map (XV G fr) = ds := by exact rfl) : VP P G r N is dep eff Q V pend fr H := VP.q i k hx' hok (QV.callP hg hx hp)
theorem VP.v {op : OP} {d : DV} (i : Nat) (hx' : is[i]? = some ⟨dst, g, op⟩) (hs : evP G fr H op = some d) (k : VP P G r N is dep eff Q (i :: V) (i :: pend) (fr.put dst d) H) (hok : vdOk dep eff V i = true := by exact rfl) (hg : GOk g fr := by first | exact trivial | exact rfl) : VP P G r N is dep eff Q V pend fr H := VP.q i k hx' hok (QV.evP hg hs)
end
end
theorem nav {A B : Prop} (k : B) (h : ∀ X : Prop, X = B → Imp X A := by intro X e; (first | refine Imp.st (fun k => RG.nilS k) ?_ | refine Imp.st (fun k => AC.seq k) ?_ | refine Imp.st (fun k => AC.reg k) ?_ | refine Imp.st (fun k => AC.block k) ?_ | refine Imp.st (fun k => AC.cond_t rfl k) ?_ | refine Imp.st (fun k => AC.cond_f rfl k) ?_ | refine Imp.st (fun k => AC.skip k) ?_ | refine Imp.st (fun k => AC.scp k) ?_); exact Imp.of_eq e) : A := h B rfl k
theorem nal {A B : Prop} (k : B) (h : ∀ X : Prop, X = B → Imp X A := by intro X e; (first | refine Imp.st (fun k => RG.nilS k) ?_ | refine Imp.st (fun k => AC.seq k) ?_ | refine Imp.st (fun k => AC.reg k) ?_ | refine Imp.st (fun k => AC.cond_t rfl k) ?_ | refine Imp.st (fun k => AC.cond_f rfl k) ?_ | refine Imp.st (fun k => AC.skip k) ?_ | refine Imp.st (fun k => AC.scp k) ?_); exact Imp.of_eq e) : A := h B rfl k
theorem au {A B : Prop} (k : B) (h : ∀ X : Prop, X = B → Imp X A := by intro X e; (repeat (first | refine Imp.st (fun k => RG.z0 k) ?_ | refine Imp.st (fun k => RG.z1 k) ?_ | refine Imp.st (fun k => RG.z2 k) ?_ | refine Imp.st (fun k => RG.z3 k) ?_ | refine Imp.st (fun k => RG.z4 k) ?_ | refine Imp.st (fun k => RG.z5 k) ?_ | refine Imp.st (fun k => RG.z6 k) ?_ | refine Imp.st (fun k => RG.z7 k) ?_ | refine Imp.st (fun k => RG.z8 k) ?_ | refine Imp.st (fun k => RG.z9 k) ?_ | refine Imp.st (fun k => RG.zA k) ?_ | refine Imp.st (fun k => RG.zB k) ?_ | refine Imp.st (fun k => RG.zC k) ?_ | refine Imp.st (fun k => RG.zD k) ?_ | refine Imp.st (fun k => RG.nilS k) ?_ | refine Imp.st (fun k => AC.seq k) ?_ | refine Imp.st (fun k => AC.reg k) ?_ | refine Imp.st (fun k => AC.block k) ?_ | refine Imp.st (fun k => AC.cond_t rfl k) ?_ | refine Imp.st (fun k => AC.cond_f rfl k) ?_ | refine Imp.st (fun k => AC.skip k) ?_ | refine Imp.st (fun k => AC.scp k) ?_)); exact Imp.of_eq e) : A := h B rfl k
theorem al {A B : Prop} (k : B) (h : ∀ X : Prop, X = B → Imp X A := by intro X e; (repeat (first | refine Imp.st (fun k => RG.z0 k) ?_ | refine Imp.st (fun k => RG.z1 k) ?_ | refine Imp.st (fun k => RG.z2 k) ?_ | refine Imp.st (fun k => RG.z3 k) ?_ | refine Imp.st (fun k => RG.z4 k) ?_ | refine Imp.st (fun k => RG.z5 k) ?_ | refine Imp.st (fun k => RG.z6 k) ?_ | refine Imp.st (fun k => RG.z7 k) ?_ | refine Imp.st (fun k => RG.z8 k) ?_ | refine Imp.st (fun k => RG.z9 k) ?_ | refine Imp.st (fun k => RG.zA k) ?_ | refine Imp.st (fun k => RG.zB k) ?_ | refine Imp.st (fun k => RG.zC k) ?_ | refine Imp.st (fun k => RG.zD k) ?_ | refine Imp.st (fun k => RG.nilS k) ?_ | refine Imp.st (fun k => AC.seq k) ?_ | refine Imp.st (fun k => AC.reg k) ?_ | refine Imp.st (fun k => AC.cond_t rfl k) ?_ | refine Imp.st (fun k => AC.cond_f rfl k) ?_ | refine Imp.st (fun k => AC.skip k) ?_ | refine Imp.st (fun k => AC.scp k) ?_)); exact Imp.of_eq e) : A := h B rfl k
section
variable {P : Program} {G : Gl} {r : Option Nat} {N : Nat} {H : Hp}
theorem VP.pe2 {is : List Ins} {dep : Nat → List Nat} {eff V pend : List Nat} {Q : EX → Fr → Hp → Prop} {fr : Fr} {xi xj : Ins} {Ki Kpi Kj Kpj : DV → Hp → Prop} (i j : Nat) (hij : i ≠ j) (hxi : is[i]? = some xi) (hxj : is[j]? = some xj)
  (hok : vdTwo is.length dep eff V i j = true) (hsi : EF P G r N xi Ki Kpi fr H) (hsj : EF P G r N xj Kj Kpj fr H) (hpi : ∀ d fr' H', Kpi d H' → Q (.panic d) fr' H') (hpj : ∀ d fr' H', Kpj d H' → Q (.panic d) fr' H')
  (ki : ∀ d H', Ki d H' → (∀ k ∈ pend.filter fun k => !(dep i).contains k, ∀ y, is[k]? = some y → StabP P G r N (fr.put xi.dst d) H' y) ∧ VP P G r N is dep eff Q (i :: V) (pend.filter fun k => !(dep i).contains k) (fr.put xi.dst d) H')
  (kj : ∀ d H', Kj d H' → (∀ k ∈ pend.filter fun k => !(dep j).contains k, ∀ y, is[k]? = some y → StabP P G r N (fr.put xj.dst d) H' y) ∧ VP P G r N is dep eff Q (j :: V) (pend.filter fun k => !(dep j).contains k) (fr.put xj.dst d) H') : VP P G r N is dep eff Q V pend fr H := by
 unfold vdTwo at hok
 simp only [Bool.and_eq_true, Bool.not_eq_true', List.all_eq_true, Bool.or_eq_true] at hok
 obtain ⟨⟨⟨⟨⟨⟨h1, h2⟩, h3⟩, h4⟩, h5⟩, h6⟩, h7⟩ := hok
 have hsel : ∀ {α : Type} (a b : α), (if i = i then a else b) = a ∧ (if j = i then a else b) = b := fun a b => ⟨if_pos rfl, if_neg (Ne.symm hij)⟩
 refine VP.effs [i, j] (fun k => if k = i then xi else xj) (fun k => if k = i then Ki else Kj) (fun k => if k = i then Kpi else Kpj) (by simp) (fun a ha => ?_) (fun a ha haV hd => ?_) (fun a ha => ?_) (fun a ha d fr' H' hk => ?_) (fun a ha d H' hK b hb hbd y hy => ?_) (fun a ha d H' hK => ?_)
 · simp only [List.mem_cons, List.not_mem_nil, or_false] at ha
   rcases ha with rfl | rfl
   · rw [if_pos rfl]
     exact ⟨hxi, by simpa using h1, by simpa using h3, fun b hb => by have := h5 b hb; simpa using this⟩
   · rw [if_neg (Ne.symm hij)]
     exact ⟨hxj, by simpa using h2, by simpa using h4, fun b hb => by have := h6 b hb; simpa using this⟩
 · have := h7 a (by simpa using ha)
   rcases this with ((h | h) | h) | h
   · have : a = i := by simpa using h
     simp [this]
   · have : a = j := by simpa using h
     simp [this]
   · exact absurd (by simpa using h) haV
   · have e : (dep a).all V.contains = true := List.all_eq_true.2 fun k hk => by simpa using hd k hk
     rw [e] at h; cases h
 · simp only [List.mem_cons, List.not_mem_nil, or_false] at ha
   rcases ha with rfl | rfl
   · rw [if_pos rfl, if_pos rfl, if_pos rfl]; exact hsi
   · rw [if_neg (Ne.symm hij), if_neg (Ne.symm hij), if_neg (Ne.symm hij)]; exact hsj
 · simp only [List.mem_cons, List.not_mem_nil, or_false] at ha
   rcases ha with rfl | rfl
   · rw [if_pos rfl] at hk; exact hpi d fr' H' hk
   · rw [if_neg (Ne.symm hij)] at hk; exact hpj d fr' H' hk
 · simp only [List.mem_cons, List.not_mem_nil, or_false] at ha
   rcases ha with rfl | rfl
   · rw [if_pos rfl] at hK ⊢
     exact (ki d H' hK).1 b (by rw [List.mem_filter]; exact ⟨hb, by simpa using hbd⟩) y hy
   · rw [if_neg (Ne.symm hij)] at hK ⊢
     exact (kj d H' hK).1 b (by rw [List.mem_filter]; exact ⟨hb, by simpa using hbd⟩) y hy
 · simp only [List.mem_cons, List.not_mem_nil, or_false] at ha
   rcases ha with rfl | rfl
   · rw [if_pos rfl] at hK ⊢
     exact (ki d H' hK).2
   · rw [if_neg (Ne.symm hij)] at hK ⊢
     exact (kj d H' hK).2
theorem splice_mid {cs zs ys rest : List DV} (h : zs.length = ys.length) : spliceL cs.length ys (cs ++ zs ++ rest) = cs ++ ys ++ rest := by
 unfold spliceL
 rw [List.append_assoc cs zs rest, List.take_left, ← List.drop_drop, List.drop_left, ← h, List.drop_left]
theorem VP.appset {is : List Ins} {dep : Nat → List Nat} {eff V pend : List Nat} {Q : EX → Fr → Hp → Prop} {fr : Fr} {ty tyv : TypeId} {sz bytes n : Nat} {tA tI : Nat} {xl xz xn xe xv : X} {H0 : Hp} {vb : Nat} {cs zs ys : List DV} {v d : DV} (i1 i2 i3 i4 : Nat)
  (e1 : is[i1]? = some ⟨some tA, none, .app ty sz bytes xl xz⟩) (e2 : is[i2]? = some ⟨some tI, none, .iadr sz (.t tA) xn⟩) (e3 : is[i3]? = some ⟨none, none, .st sz (.t tI) xe⟩) (e4 : is[i4]? = some ⟨none, none, .st 1 xv (.t tA)⟩)
  (hg : GW ty sz (H0.upd vb (some (.cells [v] tyv))) cs n v H) (hl : XV G fr xl = v) (hz : XV G fr xz = .lst zs 1 sz none) (hzl : zs.length = sz) (hcl : cs.length = n * sz)
  (hn : ∀ f : Fr, (∀ t, t ≠ tA → t ≠ tI → f t = fr t) → XV G f xn = .int .i64 n) (he : ∀ f : Fr, (∀ t, t ≠ tA → t ≠ tI → f t = fr t) → XV G f xe = d) (hv : ∀ f : Fr, (∀ t, t ≠ tA → t ≠ tI → f t = fr t) → XV G f xv = .ptr vb 0) (hne : tA ≠ tI)
  (hd : cellsD d = some ys) (hyl : ys.length = sz) (hlen : (n + 1) * bytes ≤ 140737488355328)
  (o1 : vdOne is.length dep eff V i1 = true) (op : (pend.filter fun j => !(dep i1).contains j) = []) (o2 : vdOk dep eff (i1 :: V) i2 = true) (o3 : vdTwo is.length dep eff (i2 :: i1 :: V) i3 i4 = true) (h34 : i3 ≠ i4)
  (o4 : vdOne is.length dep eff (i3 :: i2 :: i1 :: V) i4 = true) (o5 : vdOne is.length dep eff (i4 :: i2 :: i1 :: V) i3 = true)
  (oa : (List.range is.length).all (fun j => (i4 :: i3 :: i2 :: i1 :: V).contains j) = true)
  (k : ∀ v' p H', GW ty sz (H0.upd vb (some (.cells [v'] tyv))) (cs ++ ys) (n + 1) v' H' → Q .normal ((fr.put (some tA) v').put (some tI) p) H') : VP P G r N is dep eff Q V pend fr H := by
 refine VP.pe i1 e1 o1 (EF.appw (m := 1) (ys := zs) trivial hg hl (by rw [hzl, Nat.one_mul]) (by rw [hz]; simp [srcD]) hlen (by decide)) (fun _ _ _ h => h.elim) (fun v1 H1 h1 => ?_)
 rw [op]
 refine ⟨stabP_nil, ?_⟩
 rcases h1 with ⟨h0, _⟩ | ⟨g, cap, rest, g1, rfl, g3, g4, rfl⟩
 · omega
 have hgv : g ≠ vb := fun e => by rw [e, Hp.upd_same] at g1; cases g1
 rw [Hp.upd_ne hgv] at g1
 have hnn := hn (fr.put (some tA) (.win g 0 (n + 1) cap)) (fun t ht _ => Fr.put_ne (fun e => ht (by cases e; rfl)))
 have hadr : ∀ HX : Hp, evP G (fr.put (some tA) (.win g 0 (n + 1) cap)) HX (.iadr sz (.t tA) xn) = some (.ptr g (n * sz)) := fun HX => by
  show iadrD sz (XV G _ (.t tA)) (XV G _ xn) = _
  rw [hnn, show XV G (fr.put (some tA) (.win g 0 (n + 1) cap)) (.t tA) = .win g 0 (n + 1) cap from Fr.put_eq]
  have : (0 : Int) ≤ (n : Nat) ∧ ((n : Nat) : Int) < ((n + 1 : Nat) : Int) := by omega
  simp only [iadrD, if_pos this, Int.toNat_natCast, Nat.zero_add]
 refine VP.q (d := .ptr g (n * sz)) i2 ?_ e2 o2 (QV.evP trivial (hadr _))
 generalize hfr : ((fr.put (some tA) (.win g 0 (n + 1) cap)).put (some tI) (.ptr g (n * sz))) = fr2 at k ⊢
 have hfe : ∀ t, t ≠ tA → t ≠ tI → fr2 t = fr t := fun t a b => by
  rw [← hfr, Fr.put_ne (fun e => b (by cases e; rfl)), Fr.put_ne (fun e => a (by cases e; rfl))]
 have hfA : XV G fr2 (.t tA) = .win g 0 (n + 1) cap := by
  show fr2 tA = _
  rw [← hfr, Fr.put_ne (fun e => hne (by cases e; rfl)), Fr.put_eq]
 have hfI : XV G fr2 (.t tI) = .ptr g (n * sz) := by
  show fr2 tI = _
  rw [← hfr, Fr.put_eq]
 have hst : ∀ HX, StabP P G r N fr2 HX ⟨some tI, none, .iadr sz (.t tA) xn⟩ := fun HX => by
  refine StabP.of (QV.evP trivial (d := .ptr g (n * sz)) ?_) hfI
  show iadrD sz (XV G _ (.t tA)) (XV G _ xn) = _
  have hn2 := hn fr2 hfe
  rw [hfA, hn2]
  have : (0 : Int) ≤ (n : Nat) ∧ ((n : Nat) : Int) < ((n + 1 : Nat) : Int) := by omega
  simp only [iadrD, if_pos this, Int.toNat_natCast, Nat.zero_add]
 have hHg : ((H0.upd vb (some (.cells [v] tyv))).upd g (some (.cells (cs ++ zs ++ rest) ty))) g = some (.cells (cs ++ zs ++ rest) ty) := Hp.upd_same
 have hHv : ((H0.upd vb (some (.cells [v] tyv))).upd g (some (.cells (cs ++ zs ++ rest) ty))) vb = some (.cells [v] tyv) := by rw [Hp.upd_ne (Ne.symm hgv)]; exact Hp.upd_same
 have hall : (cs ++ zs ++ rest).length = cap * sz := g4
 have hle : n * sz + sz ≤ (cs ++ zs ++ rest).length := by rw [List.length_append, List.length_append, hcl, hzl]; omega
 have hspl : spliceL (n * sz) ys (cs ++ zs ++ rest) = cs ++ ys ++ rest := by rw [← hcl]; exact splice_mid (by rw [hzl, hyl])
 have s3 : ∀ HX, HX g = some (.cells (cs ++ zs ++ rest) ty) → EF P G r N ⟨none, none, .st sz (.t tI) xe⟩ (fun d' H' => d' = .junk ∧ H' = HX.upd g (some (.cells (cs ++ ys ++ rest) ty))) (fun _ _ => False) fr2 HX := fun HX hX => by
  have := EF.sto (P := P) (r := r) (N := N) (g := none) (dst := none) (fr := fr2) (x := .t tI) (y := xe) (b := g) (off := n * sz) (sz := sz) (d := d) (ys := ys) (cs := cs ++ zs ++ rest) (ty := ty) trivial hfI hX (he fr2 hfe) hd hyl hle
  rw [hspl] at this; exact this
 have s4 : ∀ HX, HX vb = some (.cells [v] tyv) → EF P G r N ⟨none, none, .st 1 xv (.t tA)⟩ (fun d' H' => d' = .junk ∧ H' = HX.upd vb (some (.cells [.win g 0 (n + 1) cap] tyv))) (fun _ _ => False) fr2 HX := fun HX hX =>
  EF.sto1 trivial (hv fr2 hfe) hX hfA rfl
 have kk : ∀ H', H' = (H0.upd vb (some (.cells [.win g 0 (n + 1) cap] tyv))).upd g (some (.cells (cs ++ ys ++ rest) ty)) → Q .normal fr2 H' := by
  rintro H' rfl
  rw [← hfr]
  exact k _ _ _ (.inr ⟨g, cap, rest, by rw [Hp.upd_ne hgv]; exact g1, rfl, by rw [List.length_append, hcl, hyl, Nat.add_mul, Nat.one_mul], by
   rw [← hall]; simp only [List.length_append, hzl, hyl], rfl⟩)
 refine VP.pe2 i3 i4 h34 e3 e4 o3 (s3 _ hHg) (s4 _ hHv) (fun _ _ _ h => h.elim) (fun _ _ _ h => h.elim) (fun d' H' ⟨f1, f2⟩ => ?_) (fun d' H' ⟨f1, f2⟩ => ?_)
 · subst f1; subst f2
   refine ⟨fun a ha y hy => ?_, ?_⟩
   · have := (List.mem_filter.1 ha).1
     rw [List.mem_singleton] at this
     subst this
     rw [e2] at hy; cases hy
     exact hst _
   refine VP.pe i4 e4 o4 (s4 _ (by rw [Hp.upd_ne (Ne.symm hgv)]; exact hHv)) (fun _ _ _ h => h.elim) (fun d' H' ⟨f1, f2⟩ => ?_)
   subst f1; subst f2
   refine ⟨fun a ha y hy => ?_, VP.pd ?_ oa⟩
   · have := (List.mem_filter.1 (List.mem_filter.1 ha).1).1
     rw [List.mem_singleton] at this
     subst this
     rw [e2] at hy; cases hy
     exact hst _
   · refine kk _ ?_
     rw [Hp.upd_upd, Hp.upd_comm hgv, Hp.upd_upd]
 · subst f1; subst f2
   refine ⟨fun a ha y hy => ?_, ?_⟩
   · have := (List.mem_filter.1 ha).1
     rw [List.mem_singleton] at this
     subst this
     rw [e2] at hy; cases hy
     exact hst _
   refine VP.pe i3 e3 o5 (s3 _ (by rw [Hp.upd_ne hgv]; exact hHg)) (fun _ _ _ h => h.elim) (fun d' H' ⟨f1, f2⟩ => ?_)
   subst f1; subst f2
   refine ⟨fun a ha y hy => ?_, VP.pd ?_ (List.all_eq_true.2 fun j hj => ?_)⟩
   · have := (List.mem_filter.1 (List.mem_filter.1 ha).1).1
     rw [List.mem_singleton] at this
     subst this
     rw [e2] at hy; cases hy
     exact hst _
   · refine kk _ ?_
     rw [Hp.upd_comm (Ne.symm hgv) , Hp.upd_upd, Hp.upd_comm hgv, Hp.upd_upd]
   · have := List.all_eq_true.1 oa j hj
     simp only [List.contains_cons, Bool.or_eq_true] at this ⊢
     rcases this with h | h | h
     · exact .inr (.inl h)
     · exact .inl h
     · exact .inr (.inr h)
theorem GW.sub {ty : TypeId} {sz n : Nat} {H H' : Hp} {cs : List DV} {v : DV} (h : GW ty sz H cs n v H') : SubH H H' := by
 rcases h with ⟨_, _, _, rfl⟩ | ⟨b, cap, rest, hb, _, _, _, rfl⟩
 · exact SubH.refl _
 · exact SubH.fresh hb
theorem GW.up {ty : TypeId} {sz n : Nat} {H H' : Hp} {cs : List DV} {v : DV} (h : GW ty sz H cs n v H') {k : Nat} {o : DO} (hk : H' k = none) : H k = none ∧ GW ty sz (H.upd k (some o)) cs n v (H'.upd k (some o)) := by
 rcases h with ⟨h0, h1, h2, rfl⟩ | ⟨b, cap, rest, hb, h2, h3, h4, rfl⟩
 · exact ⟨hk, .inl ⟨h0, h1, h2, rfl⟩⟩
 · have hne : b ≠ k := fun e => by rw [e, Hp.upd_same] at hk; cases hk
   exact ⟨by rw [Hp.upd_ne (Ne.symm hne)] at hk; exact hk, .inr ⟨b, cap, rest, by rw [Hp.upd_ne hne]; exact hb, h2, h3, h4, Hp.upd_comm hne⟩⟩
theorem GW.down {ty : TypeId} {sz n : Nat} {H H' : Hp} {cs : List DV} {v : DV} {k : Nat} {o : DO} (h : GW ty sz (H.upd k (some o)) cs n v H') (hk : H k = none) : ∃ H2, GW ty sz H cs n v H2 ∧ SubH H2 H' := by
 rcases h with ⟨h0, h1, h2, rfl⟩ | ⟨b, cap, rest, hb, h2, h3, h4, rfl⟩
 · exact ⟨H, .inl ⟨h0, h1, h2, rfl⟩, SubH.fresh hk⟩
 · have hne : b ≠ k := fun e => by rw [e, Hp.upd_same] at hb; cases hb
   rw [Hp.upd_ne hne] at hb
   refine ⟨H.upd b (some (.cells (cs ++ rest) ty)), .inr ⟨b, cap, rest, hb, h2, h3, h4, rfl⟩, ?_⟩
   rw [Hp.upd_comm (Ne.symm hne)]
   exact SubH.fresh (by rw [Hp.upd_ne (Ne.symm hne)]; exact hk)
section
variable {is : List Ins} {dep : Nat → List Nat} {eff V pend : List Nat} {Q : EX → Fr → Hp → Prop} {fr : Fr} {dst : Option Nat} {g : Option (Nat × Bool)}
theorem QV.callR {f : FuncId} {xs : List X} {ds : List DV} {d : DV} (hg : GOk g fr) (hx : xs.map (XV G fr) = ds) (h : CALL P G f ds H (fun d' h' => d' = d ∧ h' = H) (fun _ _ => False)) : QV P G r N ⟨dst, g, .call f xs⟩ fr H d := by
 intro fr1 l Q hs k
 have e : xs.map (XV G fr1) = ds := by
  rw [← hx]
  exact mapXV_congr xs fun x hx => XV_congr fun t ht => hs t (by
   unfold slotsI; exact List.mem_append_left _ (List.mem_flatMap.2 ⟨x, hx, ht⟩))
 exact RG.callR (GOk.congr (i := ⟨dst, g, .call f xs⟩) hg hs) e h k
theorem VP.cr {f : FuncId} {xs : List X} {ds : List DV} {d : DV} (i : Nat) (hp : CALL P G f ds H (fun d' h' => d' = d ∧ h' = H) (fun _ _ => False)) (k : VP P G r N is dep eff Q (i :: V) (i :: pend) (fr.put dst d) H) (hx' : is[i]? = some ⟨dst, g, .call f xs⟩ := by exact rfl) (hok : vdOk dep eff V i = true := by exact rfl) (hg : GOk g fr := by first | exact trivial | exact rfl) (hx : xs.map (XV G fr) = ds := by exact rfl) : VP P G r N is dep eff Q V pend fr H := VP.q i k hx' hok (QV.callR hg hx hp)
end
end
section
variable {P : Program} {G : Gl}
theorem PF.ofNew {f : FuncId} {fn : Func} {ds cs : List DV} {n : Nat} (hf : P.funcs[f]? = some fn) (hb : fn.body.isNone = false) (hn : (fn.name == "runtime.NumGoroutine") = false) (hcs : cs.length = n)
  (h : ∀ (w : World) (H : Hp) (Z : Zn) (vs : Array Value), HR G w H Z → vs.size = ds.length → (∀ (j : Nat) (v : Value) (d : DV), vs[j]? = some v → ds[j]? = some d → VR w H Z v d) →
   Calls P f vs w fun e w' => ∃ (arr : Array Value) (ty : TypeId), e = .returned (.slice (some ⟨w.heap.size, 0, none⟩) n n) ∧ w' = w.alloc (.cells arr ty) ∧ arr.size = n ∧ (∀ (j : Nat) (v : Value), arr[j]? = some v → v.oneCell' = true) ∧
    (∀ (j : Nat) (v : Value) (d : DV), arr[j]? = some v → cs[j]? = some d → ∀ w H Z, VR w H Z v d)) : PF P G f ds (.lst cs n 1 none) := by
 intro H
 refine ⟨⟨fn, hf, hb, hn⟩, fun w Z vs hr hs hv => (h w H Z vs hr hs hv).mono fun e w' he => ?_⟩
 obtain ⟨arr, ty, rfl, rfl, h1, h2, h3⟩ := he
 have hrl : RL w H Z arr cs := ⟨by rw [h1, hcs], h2, fun j v d e1 e2 => h3 j v d e1 e2 _ _ _⟩
 obtain ⟨k1, k2⟩ := alloc_cells hr hrl ty
 have hfree : H w.heap.size = none := hr.free (Nat.le_refl _)
 have hsub : SubH H (H.upd w.heap.size (some (.cells cs ty))) := SubH.fresh hfree
 refine ⟨_, H, _, ⟨rfl, rfl⟩, ?_, k1.drop hsub, k2.drop hsub⟩
 have hZ : Gone (H.upd w.heap.size (some (.cells cs ty))) H Z w.heap.size := .inr ⟨⟨_, Hp.upd_same⟩, hfree⟩
 have hcell : ∀ j, (w.alloc (.cells arr ty)).cell? ⟨w.heap.size, j, none⟩ = arr[j]? := fun j => cell_of_row _ _ _ _ _ _ (heap_alloc_new w _)
 refine .lst (some ⟨w.heap.size, 0, none⟩) n n 1 cs none (fun j => arr.getD j undef) (by omega) (Nat.le_refl _) (fun j hj => ⟨_, rfl, rfl, ?_, .inl hZ⟩) (fun j hj => ?_) (fun j d hd => ?_) (fun b off e => by cases e)
 · have hja : j < arr.size := by omega
   rw [hcell, Nat.zero_add]
   simp [Array.getD_eq_getD_getElem?, hja]
 · have hja : j < arr.size := by omega
   have : arr.getD j undef = arr[j] := by simp [Array.getD_eq_getD_getElem?, hja]
   show (arr.getD j undef).oneCell' = true
   rw [this]; exact h2 j _ (Array.getElem?_eq_getElem hja)
 · have hj : j < cs.length := (List.getElem?_eq_some_iff.1 hd).1
   have hja : j < arr.size := by omega
   have : arr.getD j undef = arr[j] := by simp [Array.getD_eq_getD_getElem?, hja]
   show VR _ _ _ (arr.getD j undef) d
   rw [this]; exact h3 j _ d (Array.getElem?_eq_getElem hja) hd _ _ _
end
end Go.Run
