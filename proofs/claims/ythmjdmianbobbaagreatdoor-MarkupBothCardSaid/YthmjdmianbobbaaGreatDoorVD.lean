/- Part 4 of a proof: texts M3 M4 M5 N0 MP MQ. -/
import Derived.Test.YthmjdmianbobbaaGreatDoorVC
import Derived.MapKept
namespace Go.Run
open Go Go.RowKit
section
variable {P : Program} {G : Gl} {r : Option Nat} {N : Nat}
variable (P G r N) in
def QV (i : Ins) (fr : Fr) (H : Hp) (d : DV) : Prop := ∀ (fr1 : Fr) (l : List Ins) (Q : EX → Fr → Hp → Prop), (∀ t ∈ slotsI i, fr1 t = fr t) → RG P G r N l Q (fr1.put i.dst d) H → RG P G r N (i :: l) Q fr1 H
theorem QV.congr {i : Ins} {fr fr' : Fr} {H : Hp} {d : DV} (h : QV P G r N i fr H d) (hs : ∀ t ∈ slotsI i, fr' t = fr t) : QV P G r N i fr' H d :=
 fun fr1 l Q h1 k => h fr1 l Q (fun t ht => (h1 t ht).trans (hs t ht)) k
theorem QV.of {i : Ins} {fr : Fr} {H : Hp} {d : DV} (h : evI G fr H i = some d) : QV P G r N i fr H d :=
 fun fr1 l Q h1 k => RG.ev ((evI_congr h1).trans h) k
variable (P G r N) in
def StabP (fr : Fr) (H : Hp) (i : Ins) : Prop := ∃ d, QV P G r N i fr H d ∧ ∀ t, i.dst = some t → fr t = d
variable (P G r N) in
inductive VP (l : List Ins) (dep : Nat → List Nat) (eff : List Nat) (Q : EX → Fr → Hp → Prop) : List Nat → List Nat → Fr → Hp → Prop
 | val {V pend : List Nat} {fr : Fr} {H : Hp} (i : Nat) (x : Ins) {d : DV} (hx : l[i]? = some x) (he : i ∉ eff) (hv : i ∉ V) (hd : ∀ j ∈ dep i, j ∈ V) (hs : QV P G r N x fr H d)
   (k : VP l dep eff Q (i :: V) (i :: pend) (fr.put x.dst d) H) : VP l dep eff Q V pend fr H
 | effs {V pend : List Nat} {fr : Fr} {H : Hp} (A : List Nat) (X : Nat → Ins) (K Kp : Nat → DV → Hp → Prop) (hA : A ≠ []) (hx : ∀ i ∈ A, l[i]? = some (X i) ∧ i ∈ eff ∧ i ∉ V ∧ ∀ j ∈ dep i, j ∈ V)
   (ho : ∀ j, j < l.length → j ∉ V → (∀ k ∈ dep j, k ∈ V) → j ∈ A)
   (hs : ∀ i ∈ A, EF P G r N (X i) (K i) (Kp i) fr H) (hp : ∀ i ∈ A, ∀ d fr' H', Kp i d H' → Q (.panic d) fr' H')
   (hst : ∀ i ∈ A, ∀ d H', K i d H' → ∀ j ∈ pend, j ∉ dep i → ∀ y, l[j]? = some y → StabP P G r N (fr.put (X i).dst d) H' y)
   (k : ∀ i ∈ A, ∀ d H', K i d H' → VP l dep eff Q (i :: V) (pend.filter fun j => !(dep i).contains j) (fr.put (X i).dst d) H') : VP l dep eff Q V pend fr H
 | done {V pend : List Nat} {fr : Fr} {H : Hp} (ha : ∀ j, j < l.length → j ∈ V) (hq : Q .normal fr H) : VP l dep eff Q V pend fr H
variable (P G r N) in
structure BehP (l : List Ins) (dep : Nat → List Nat) (eff V pend R : List Nat) (fr fr1 : Fr) (H : Hp) : Prop where
 sub : ∀ i ∈ R, i ∈ V
 pnd : ∀ i ∈ V, i ∉ R → i ∈ pend
 pe : ∀ i ∈ pend, i ∉ eff
 vd : ∀ i ∈ V, ∀ j ∈ dep i, j ∈ V
 vl : ∀ i ∈ V, i < l.length
 mask : ∀ t, fr1 t = fr t ∨ ∃ (i : Nat) (x : Ins), i ∈ V ∧ i ∉ R ∧ l[i]? = some x ∧ x.dst = some t
 st : ∀ i ∈ V, i ∉ R → ∀ x, l[i]? = some x → StabP P G r N fr H x
section
variable {l : List Ins} {dep : Nat → List Nat} {eff V pend R : List Nat} {fr fr1 : Fr} {H : Hp}
theorem BehP.slot (hok : okD l dep eff) (hb : BehP P G r N l dep eff V pend R fr fr1 H) {j : Nat} {y : Ins} (hy : l[j]? = some y) (hd : ∀ k ∈ dep j, k ∈ R) : ∀ t ∈ slotsI y, fr1 t = fr t := by
 intro t ht
 rcases hb.mask t with h | ⟨i, x, h1, h2, h3, h4⟩
 · exact h
 · rcases hok.2 i j x y t h3 hy h4 ht with h | ⟨_, h⟩
   · exact absurd (hd i h) h2
   · exact absurd h (hb.pe i (hb.pnd i h1 h2))
theorem BehP.pending (hok : okD l dep eff) (hb : BehP P G r N l dep eff V pend R fr fr1 H) {j : Nat} (hj : j ∈ V) (hjR : j ∉ R) {y : Ins} (hy : l[j]? = some y) (hd : ∀ k ∈ dep j, k ∈ R) :
  ∃ d, QV P G r N y fr1 H d ∧ BehP P G r N l dep eff V pend (j :: R) fr (fr1.put y.dst d) H := by
 obtain ⟨d, h1, h2⟩ := hb.st j hj hjR y hy
 refine ⟨d, h1.congr (hb.slot hok hy hd), ?_⟩
 refine ⟨fun i hi => ?_, fun i hi hr => hb.pnd i hi (fun h => hr (by simp [h])), hb.pe, hb.vd, hb.vl, fun t => ?_, fun i hi hr x hx => hb.st i hi (fun h => hr (by simp [h])) x hx⟩
 · rcases List.mem_cons.1 hi with rfl | hi
   · exact hj
   · exact hb.sub i hi
 · by_cases ht : y.dst = some t
   · left; rw [ht, Fr.put_eq, h2 t ht]
   · rw [Fr.put_ne ht]
     rcases hb.mask t with h | ⟨i, x, k1, k2, k3, k4⟩
     · exact .inl h
     · right
       refine ⟨i, x, k1, fun h => ?_, k3, k4⟩
       rcases List.mem_cons.1 h with rfl | h
       · rw [hy] at k3; cases k3; exact ht k4
       · exact k2 h
theorem VP.sound {Q : EX → Fr → Hp → Prop} (hok : okD l dep eff) (h : VP P G r N l dep eff Q V pend fr H) : ∀ (π R : List Nat) (fr1 : Fr), Lin l.length dep R π → BehP P G r N l dep eff V pend R fr fr1 H →
  RG P G r N (π.filterMap (l[·]?)) Q fr1 H := by
 induction h with
 | @val V pend fr H i x d hx he hv hd hs k ih =>
   intro π R fr1 hl hb
   have hself : ∀ (j : Nat) (y : Ins), l[j]? = some y → j ∈ V ∨ j = i → ∀ t ∈ slotsI y, x.dst ≠ some t := by
    intro j y hy hj t ht e
    rcases hok.2 i j x y t hx hy e ht with h | ⟨_, h⟩
    · rcases hj with hj | hj
      · exact hv (hb.vd j hj i h)
      · subst hj; exact hv (hd j h)
    · exact he h
   refine ih π R fr1 hl ⟨fun j hj => by simp [hb.sub j hj], fun j hj hr => ?_, fun j hj => ?_, fun j hj k' hk => ?_, fun j hj => ?_, fun t => ?_, fun j hj hr y hy => ?_⟩
   · rcases List.mem_cons.1 hj with rfl | hj
     · simp
     · simp [hb.pnd j hj hr]
   · rcases List.mem_cons.1 hj with rfl | hj
     · exact he
     · exact hb.pe j hj
   · rcases List.mem_cons.1 hj with rfl | hj
     · simp [hd _ hk]
     · simp [hb.vd j hj _ hk]
   · rcases List.mem_cons.1 hj with rfl | hj
     · exact (List.getElem?_eq_some_iff.1 hx).1
     · exact hb.vl j hj
   · by_cases ht : x.dst = some t
     · right; exact ⟨i, x, by simp, fun h => hv (hb.sub i h), hx, ht⟩
     · rw [Fr.put_ne ht]
       rcases hb.mask t with h | ⟨j, y, k1, k2, k3, k4⟩
       · exact .inl h
       · exact .inr ⟨j, y, by simp [k1], k2, k3, k4⟩
   · rcases List.mem_cons.1 hj with rfl | hj
     · rw [hx] at hy
       cases hy
       refine ⟨d, ?_, fun t ht => by rw [ht, Fr.put_eq]⟩
       exact hs.congr fun t ht => Fr.put_ne (hself j x hx (.inr rfl) t ht)
     · obtain ⟨d', h1, h2⟩ := hb.st j hj hr y hy
       refine ⟨d', ?_, fun t ht => ?_⟩
       · exact h1.congr fun t ht => Fr.put_ne (hself j y hy (.inl hj) t ht)
       · rw [← h2 t ht]
         refine Fr.put_ne fun e => ?_
         have := hok.1 i j x y t hx hy e ht
         exact hv (this ▸ hj)
 | @effs V pend fr H A X K Kp hA hxa ho hs hp hst k ih =>
   intro π
   induction π with
   | nil =>
     intro R fr1 hl hb
     obtain ⟨i, hi⟩ := List.exists_mem_of_ne_nil A hA
     obtain ⟨hx, _, hv, _⟩ := hxa i hi
     exact absurd (hb.sub i (hl i (List.getElem?_eq_some_iff.1 hx).1)) hv
   | cons j π ihπ =>
     intro R fr1 hl hb
     obtain ⟨hj, hjR, hjd, hl'⟩ := hl
     have hy : l[j]? = some l[j] := List.getElem?_eq_getElem hj
     rw [List.filterMap_cons, hy]
     by_cases hjV : j ∈ V
     · obtain ⟨d, h1, h2⟩ := hb.pending hok hjV hjR hy hjd
       exact h1 _ _ _ (fun _ _ => rfl) (ihπ _ _ hl' h2)
     · have hji := ho j hj hjV (fun k hk => hb.sub k (hjd k hk))
       obtain ⟨hx, he, hv, hd⟩ := hxa j hji
       rw [hx] at hy
       have hy := Option.some.inj hy
       rw [← hy]
       refine hs j hji fr1 _ Q (hb.slot hok hx hjd) (fun d H' hK => ?_) (hp j hji)
       refine ih j hji d H' hK π _ _ hl' ⟨fun k hk => ?_, fun k hk hr => ?_, fun k hk => ?_, fun a ha b hb' => ?_, fun a ha => ?_, fun t => ?_, fun a ha hr y hy => ?_⟩
       · rcases List.mem_cons.1 hk with rfl | hk
         · simp
         · simp [hb.sub k hk]
       · have hkR : k ∉ R := fun h => hr (by simp [h])
         rcases List.mem_cons.1 hk with rfl | hk
         · exact absurd (by simp) hr
         · rw [List.mem_filter]
           refine ⟨hb.pnd k hk hkR, ?_⟩
           have : k ∉ dep j := fun h => hkR (hjd k h)
           simpa using this
       · exact hb.pe k (List.mem_filter.1 hk).1
       · rcases List.mem_cons.1 ha with rfl | ha
         · simp [hd b hb']
         · simp [hb.vd a ha b hb']
       · rcases List.mem_cons.1 ha with rfl | ha
         · exact hj
         · exact hb.vl a ha
       · by_cases ht : (X j).dst = some t
         · left; rw [ht, Fr.put_eq, Fr.put_eq]
         · rw [Fr.put_ne ht, Fr.put_ne ht]
           rcases hb.mask t with h | ⟨a, y, k1, k2, k3, k4⟩
           · exact .inl h
           · refine .inr ⟨a, y, by simp [k1], fun h => ?_, k3, k4⟩
             rcases List.mem_cons.1 h with rfl | h
             · exact hv k1
             · exact k2 h
       · have haR : a ∉ R := fun h => hr (by simp [h])
         rcases List.mem_cons.1 ha with rfl | ha
         · exact absurd (by simp) hr
         · exact hst j hji d H' hK a (hb.pnd a ha haR) (fun h => haR (hjd a h)) y hy
 | @done V pend fr H ha hq =>
   intro π
   induction π with
   | nil =>
     intro R fr1 hl hb
     refine RG.nil ?_
     have : fr1 = fr := by
      funext t
      rcases hb.mask t with h | ⟨i, x, h1, h2, h3, h4⟩
      · exact h
      · exact absurd (hl i (List.getElem?_eq_some_iff.1 h3).1) h2
     rw [this]; exact hq
   | cons j π ihπ =>
     intro R fr1 hl hb
     obtain ⟨hj, hjR, hjd, hl'⟩ := hl
     have hy : l[j]? = some l[j] := List.getElem?_eq_getElem hj
     rw [List.filterMap_cons, hy]
     obtain ⟨d, h1, h2⟩ := hb.pending hok (ha j hj) hjR hy hjd
     exact h1 _ _ _ (fun _ _ => rfl) (ihπ _ _ hl' h2)
end
theorem AC.drawP {l : List Ins} {aft : List (List Nat)} (eff : List Nat) {Q : EX → Fr → Hp → Prop} {fr : Fr} {H : Hp} (hok : okDb l aft eff = true) (h : VP P G r N l (depL aft) eff Q [] [] fr H) :
  AC P G r N (.draw l aft) Q fr H :=
 AC.draw fun π hl => h.sound (okDb_sound hok) π [] fr hl ⟨fun i hi => by simp at hi, fun i hi => by simp at hi, fun i hi => by simp at hi, fun i hi => by simp at hi, fun i hi => by simp at hi, fun t => .inl rfl, fun i hi => by simp at hi⟩
end
section
variable {P : Program} {G : Gl} {r : Option Nat} {N : Nat} {is : List Ins} {dep : Nat → List Nat} {eff V pend : List Nat} {Q : EX → Fr → Hp → Prop} {fr : Fr} {H : Hp} {dst : Option Nat}
variable {g : Option (Nat × Bool)}
theorem GOk.congr {i : Ins} {fr1 : Fr} (h : GOk i.g fr) (hs : ∀ t ∈ slotsI i, fr1 t = fr t) : GOk i.g fr1 := by
 unfold GOk at h ⊢
 cases e : i.g with
 | none => trivial
 | some p =>
   obtain ⟨t, b⟩ := p
   rw [e] at h
   exact (hs t (by unfold slotsI; rw [e]; simp)).trans h
theorem QV.evP {op : OP} {d : DV} (hg : GOk g fr) (h : evP G fr H op = some d) : QV P G r N ⟨dst, g, op⟩ fr H d := by
 refine QV.of ?_
 unfold evI
 cases g with
 | none => exact h
 | some p =>
   obtain ⟨t, b⟩ := p
   have ht : fr t = .bool b := hg
   simp only [ht, if_true]; exact h
theorem QV.callP {f : FuncId} {xs : List X} {ds : List DV} {d : DV} (hg : GOk g fr) (hx : xs.map (XV G fr) = ds) (h : PF P G f ds d) : QV P G r N ⟨dst, g, .call f xs⟩ fr H d := by
 intro fr1 l Q hs k
 have e : xs.map (XV G fr1) = ds := by
  rw [← hx]
  exact mapXV_congr xs fun x hx => XV_congr fun t ht => hs t (by
   unfold slotsI; exact List.mem_append_left _ (List.mem_flatMap.2 ⟨x, hx, ht⟩))
 exact RG.callP (GOk.congr (i := ⟨dst, g, .call f xs⟩) hg hs) e h k
theorem VP.q {x : Ins} {d : DV} (i : Nat) (k : VP P G r N is dep eff Q (i :: V) (i :: pend) (fr.put x.dst d) H) (hx : is[i]? = some x := by exact rfl) (hok : vdOk dep eff V i = true := by exact rfl) (hs : QV P G r N x fr H d) : VP P G r N is dep eff Q V pend fr H := by
 unfold vdOk at hok
 simp only [Bool.and_eq_true, Bool.not_eq_true', List.all_eq_true] at hok
 exact VP.val i _ hx (by have := hok.1.1; simpa using this) (by have := hok.1.2; simpa using this) (fun j hj => by have := hok.2 j hj; simpa using this) hs k
theorem VP.pe {x : Ins} {K Kp : DV → Hp → Prop} (i : Nat) (hx : is[i]? = some x) (hok : vdOne is.length dep eff V i = true) (hs : EF P G r N x K Kp fr H)
  (hp : ∀ d fr' H', Kp d H' → Q (.panic d) fr' H')
  (k : ∀ d H', K d H' → (∀ j ∈ pend.filter fun j => !(dep i).contains j, ∀ y, is[j]? = some y → StabP P G r N (fr.put x.dst d) H' y) ∧ VP P G r N is dep eff Q (i :: V) (pend.filter fun j => !(dep i).contains j) (fr.put x.dst d) H') : VP P G r N is dep eff Q V pend fr H := by
 unfold vdOne at hok
 simp only [Bool.and_eq_true, Bool.not_eq_true', List.all_eq_true, Bool.or_eq_true] at hok
 obtain ⟨⟨⟨h1, h2⟩, h3⟩, h4⟩ := hok
 refine VP.effs [i] (fun _ => x) (fun _ => K) (fun _ => Kp) (by simp) (fun a ha => ?_) (fun j hj hjV hd => ?_) (fun a ha => hs) (fun a ha => hp) (fun a ha d H' hK j hj hji y hy => (k d H' hK).1 j ?_ y hy) (fun a ha d H' hK => ?_)
 · rw [List.mem_singleton.1 ha]
   exact ⟨hx, by simpa using h1, by simpa using h2, fun j hj => by have := h3 j hj; simpa using this⟩
 rotate_left 2
 · rw [List.mem_singleton.1 ha]
   exact (k d H' hK).2
 · rw [List.mem_singleton]
   rcases h4 j (by simpa using hj) with (h | h) | h
   · simpa using h
   · exact absurd (by simpa using h) hjV
   · have e : (dep j).all V.contains = true := List.all_eq_true.2 fun k hk => by simpa using hd k hk
     rw [e] at h; cases h
 · rw [List.mem_singleton.1 ha] at hji; rw [List.mem_filter]; exact ⟨hj, by simpa using hji⟩
theorem VP.pd (hq : Q .normal fr H) (ha : (List.range is.length).all (fun j => V.contains j) = true := by exact rfl) : VP P G r N is dep eff Q V pend fr H :=
 VP.done (fun j hj => by have := List.all_eq_true.1 ha j (by simpa using hj); simpa using this) hq
theorem stabP_nil {is : List Ins} {H' : Hp} {fr' : Fr} : ∀ j ∈ ([] : List Nat), ∀ y, is[j]? = some y → StabP P G r N fr' H' y := fun j hj => by simp at hj
theorem stabP_cons {is : List Ins} {H' : Hp} {fr' : Fr} {j : Nat} {js : List Nat} {y : Ins} (hy : is[j]? = some y) (h : StabP P G r N fr' H' y) (hs : ∀ j ∈ js, ∀ y, is[j]? = some y → StabP P G r N fr' H' y) : ∀ k ∈ (j :: js), ∀ y, is[k]? = some y → StabP P G r N fr' H' y := by
 intro k hk z hz
 rcases List.mem_cons.1 hk with rfl | hk
 · rw [hy] at hz; cases hz; exact h
 · exact hs k hk z hz
theorem StabP.of {g : Option (Nat × Bool)} {op : OP} {t : Nat} {d : DV} (h : QV P G r N ⟨some t, g, op⟩ fr H d) (ht : fr t = d) : StabP P G r N fr H ⟨some t, g, op⟩ := ⟨d, h, fun u hu => by cases hu; exact ht⟩
end
section
variable {P : Program} {G : Gl} {r : Option Nat} {N : Nat} {dst : Option Nat} {l : List Ins} {Q : EX → Fr → Hp → Prop} {fr : Fr} {H : Hp} {x y : X} {g : Option (Nat × Bool)}
theorem RG.bslF {ty len sz : Nat} {zs cs : List DV} {ps : List (Nat × Nat × X)} (hg : GOk g fr) (hb : bldD (XV G fr) ps zs = some cs) (k : RG P G r N l Q (fr.put dst (.lst cs len sz none)) H) : RG P G r N (⟨dst, g, .bsl ty len sz zs ps⟩ :: l) Q fr H :=
 RG.s hg (ST.bsl hb fun _ h => RG.drop (SubH.fresh h) (RG.leSet DLe.tag k))
theorem RG.zD {ty len sz : Nat} {zs cs : List DV} {ps : List (Nat × Nat × X)} (k : RG P G r N l Q (fr.put dst (.lst cs len sz none)) H) (hg : GOk g fr := by first | exact trivial | exact rfl) (hb : bldD (XV G fr) ps zs = some cs := by conv => lhs; whnf) : RG P G r N (⟨dst, g, .bsl ty len sz zs ps⟩ :: l) Q fr H := RG.bslF hg hb k
theorem XV_slots {i : Ins} {fr1 : Fr} (hs : ∀ t ∈ slotsI i, fr1 t = fr t) {z : X} (hz : z ∈ opX i.op) : XV G fr1 z = XV G fr z := XV_congr fun t ht => hs t (by
 unfold slotsI; exact List.mem_append_left _ (List.mem_flatMap.2 ⟨z, hz, ht⟩))
theorem QV.bsl {ty len sz : Nat} {zs cs : List DV} {ps : List (Nat × Nat × X)} (hg : GOk g fr) (hb : bldD (XV G fr) ps zs = some cs) : QV P G r N ⟨dst, g, .bsl ty len sz zs ps⟩ fr H (.lst cs len sz none) := by
 intro fr1 l Q hs k
 refine RG.bslF (GOk.congr (i := ⟨dst, g, .bsl ty len sz zs ps⟩) hg hs) ?_ k
 rw [← hb]
 exact bldD_congr ps zs fun p hp => XV_slots (i := ⟨dst, g, .bsl ty len sz zs ps⟩) hs (by simp only [opX, List.mem_map]; exact ⟨p, hp, rfl⟩)
theorem EF.sto {b off sz : Nat} {d : DV} {cs ys : List DV} {ty : TypeId} (hg : GOk g fr) (hx : XV G fr x = .ptr b off) (hb : H b = some (.cells cs ty)) (hy : XV G fr y = d) (hc : cellsD d = some ys) (hl : ys.length = sz) (hle : off + sz ≤ cs.length) :
  EF P G r N ⟨dst, g, .st sz x y⟩ (fun d' H' => d' = .junk ∧ H' = H.upd b (some (.cells (spliceL off ys cs) ty))) (fun _ _ => False) fr H := by
 intro fr1 l Q hs k kp
 exact RG.sto (GOk.congr (i := ⟨dst, g, .st sz x y⟩) hg hs) ((XV_slots (i := ⟨dst, g, .st sz x y⟩) hs (by simp [opX])).trans hx) hb ((XV_slots (i := ⟨dst, g, .st sz x y⟩) hs (by simp [opX])).trans hy) hc hl hle (k _ _ ⟨rfl, rfl⟩)
theorem EF.callg {f : FuncId} {xs : List X} {ds : List DV} {Kr Kp : DV → Hp → Prop} (hg : GOk g fr) (hx : xs.map (XV G fr) = ds) (h : CALL P G f ds H Kr Kp) : EF P G r N ⟨dst, g, .call f xs⟩ Kr Kp fr H := by
 intro fr1 l Q hs k kp
 have e : xs.map (XV G fr1) = ds := by
  rw [← hx]
  exact mapXV_congr xs fun x hx => XV_congr fun t ht => hs t (by
   unfold slotsI; exact List.mem_append_left _ (List.mem_flatMap.2 ⟨x, hx, ht⟩))
 exact RG.call (GOk.congr (i := ⟨dst, g, .call f xs⟩) hg hs) e h k (fun d H' hk => kp d _ H' hk)
def GW (ty : TypeId) (sz : Nat) (H : Hp) (cs : List DV) (n : Nat) (v : DV) (H' : Hp) : Prop :=
 (n = 0 ∧ cs = [] ∧ v = .nils ∧ H' = H) ∨ ∃ b cap rest, H b = none ∧ v = .win b 0 n cap ∧ cs.length = n * sz ∧ (cs ++ rest).length = cap * sz ∧ H' = H.upd b (some (.cells (cs ++ rest) ty))
theorem GW.nil {ty : TypeId} {sz : Nat} {H : Hp} : GW ty sz H [] 0 .nils H := .inl ⟨rfl, rfl, rfl, rfl⟩
theorem GW.look {ty : TypeId} {sz n : Nat} {H H' : Hp} {cs : List DV} {v : DV} (h : GW ty sz H cs n v H') {k : Nat} {o : DO} (hk : H k = some o) : H' k = some o := by
 rcases h with ⟨_, _, _, rfl⟩ | ⟨b, cap, rest, hb, _, _, _, rfl⟩
 · exact hk
 · rw [Hp.upd_ne (fun e => by subst e; rw [hb] at hk; cases hk)]; exact hk
theorem GW.set {ty : TypeId} {sz n : Nat} {H H' : Hp} {cs : List DV} {v : DV} (h : GW ty sz H cs n v H') {k : Nat} {o o' : DO} (hk : H k = some o) : GW ty sz (H.upd k (some o')) cs n v (H'.upd k (some o')) := by
 rcases h with ⟨h0, h1, h2, rfl⟩ | ⟨b, cap, rest, hb, h2, h3, h4, rfl⟩
 · exact .inl ⟨h0, h1, h2, rfl⟩
 · have hne : b ≠ k := fun e => by rw [e] at hb; rw [hb] at hk; cases hk
   exact .inr ⟨b, cap, rest, by rw [Hp.upd_ne hne]; exact hb, h2, h3, h4, Hp.upd_comm hne⟩
theorem GW.len {ty : TypeId} {sz n : Nat} {H H' HX : Hp} {cs : List DV} {v : DV} {fr : Fr} {x : X} (h : GW ty sz H cs n v H') (hx : XV G fr x = v) : evP G fr HX (.len false x) = some (.int .i64 n) := by
 rcases h with ⟨rfl, rfl, rfl, _⟩ | ⟨b, cap, rest, _, rfl, _⟩ <;> simp [evP, hx, lenD]
theorem GW.app {ty : TypeId} {sz bytes n m : Nat} {H HL : Hp} {cs ys : List DV} {v : DV} (hg : GOk g fr) (h : GW ty sz H cs n v HL) (hx : XV G fr x = v) (hyl : ys.length = m * sz)
  (hy : srcD HL sz (XV G fr y) = some (ys, m)) (hlen : (n + m) * bytes ≤ 140737488355328) (hm : 0 < m)
  (k : ∀ v' HL', GW ty sz H (cs ++ ys) (n + m) v' HL' → RG P G r N l Q (fr.put dst v') HL') : RG P G r N (⟨dst, g, .app ty sz bytes x y⟩ :: l) Q fr HL := by
 rcases h with ⟨rfl, rfl, rfl, rfl⟩ | ⟨b, cap, rest, hb, rfl, h3, h4, rfl⟩
 · refine RG.s hg (ST.app_w0 hx hy hm (by rw [Nat.zero_add] at hlen; exact hlen) fun b cap rest hb _ hr => k _ _ (.inr ⟨b, cap, rest, hb, ?_, ?_, ?_, ?_⟩))
   · rw [Nat.zero_add]
   · rw [List.nil_append, Nat.zero_add]; exact hyl
   · rw [List.nil_append]; exact hr
   · rw [List.nil_append]
 · refine RG.s hg (ST.app_w hx Hp.upd_same h3 h4 hy hlen fun b' cap' rest' hb' hc' hr' => ?_)
   have e1 : (H.upd b (some (.cells (cs ++ rest) ty))).upd b none = H := by rw [Hp.upd_upd]; exact Hp.upd_id hb
   rw [e1]
   refine k _ _ (.inr ⟨b', cap', rest', ?_, rfl, by rw [List.length_append, h3, hyl, Nat.add_mul], hr', rfl⟩)
   rcases hb' with rfl | hb'
   · exact hb
   · have hne : b' ≠ b := fun e => by rw [e, Hp.upd_same] at hb'; cases hb'
     rw [Hp.upd_ne hne] at hb'; exact hb'
theorem EF.appw {ty : TypeId} {sz bytes n m : Nat} {H0 : Hp} {cs ys : List DV} {v : DV} (hg : GOk g fr) (h : GW ty sz H0 cs n v H) (hx : XV G fr x = v) (hyl : ys.length = m * sz)
  (hy : srcD H sz (XV G fr y) = some (ys, m)) (hlen : (n + m) * bytes ≤ 140737488355328) (hm : 0 < m) :
  EF P G r N ⟨dst, g, .app ty sz bytes x y⟩ (fun v' H' => GW ty sz H0 (cs ++ ys) (n + m) v' H') (fun _ _ => False) fr H := by
 intro fr1 l Q hs k kp
 exact GW.app (GOk.congr (i := ⟨dst, g, .app ty sz bytes x y⟩) hg hs) h ((XV_slots (i := ⟨dst, g, .app ty sz bytes x y⟩) hs (by simp [opX])).trans hx) hyl (by rw [XV_slots (i := ⟨dst, g, .app ty sz bytes x y⟩) hs (by simp [opX])]; exact hy) hlen hm (fun v' H' hk => k v' H' hk)
section
variable {is : List Ins} {dep : Nat → List Nat} {eff V pend : List Nat}
theorem VP.z0 {d : DV} (i : Nat) (k : VP P G r N is dep eff Q (i :: V) (i :: pend) (fr.put dst d) H) (hx : is[i]? = some ⟨dst, g, .mv x⟩ := by exact rfl) (hok : vdOk dep eff V i = true := by exact rfl) (hg : GOk g fr := by first | exact trivial | exact rfl) (hs : XV G fr x = d := by conv => lhs; whnf) : VP P G r N is dep eff Q V pend fr H := VP.q i k hx hok (QV.evP hg (by simp only [evP, hs]))
theorem VP.z5 {op : OP} {d : DV} (i : Nat) (k : VP P G r N is dep eff Q (i :: V) (i :: pend) (fr.put dst d) H) (hx' : is[i]? = some ⟨dst, g, op⟩ := by exact rfl) (hok : vdOk dep eff V i = true := by exact rfl) (hg : GOk g fr := by first | exact trivial | exact rfl) (hs : evP G fr H op = some d := by conv => lhs; whnf) : VP P G r N is dep eff Q V pend fr H := VP.q i k hx' hok (QV.evP hg hs)
theorem VP.z8 {ty len sz : Nat} {zs cs : List DV} {ps : List (Nat × Nat × X)} (i : Nat) (k : VP P G r N is dep eff Q (i :: V) (i :: pend) (fr.put dst (.lst cs len sz none)) H) (hx' : is[i]? = some ⟨dst, g, .bsl ty len sz zs ps⟩ := by exact rfl) (hok : vdOk dep eff V i = true := by exact rfl) (hg : GOk g fr := by first | exact trivial | exact rfl) (hb : bldD (XV G fr) ps zs = some cs := by conv => lhs; whnf) : VP P G r N is dep eff Q V pend fr H := VP.q i k hx' hok (QV.bsl hg hb)
theorem VP.c {f : FuncId} {xs : List X} {ds : List DV} {d : DV} (i : Nat) (hp : PF P G f ds d) (k : VP P G r N is dep eff Q (i :: V) (i :: pend) (fr.put dst d) H) (hx' : is[i]? = some ⟨dst, g, .call f xs⟩ := by exact rfl) (hok : vdOk dep eff V i = true := by exact rfl) (hg : GOk g fr := by first | exact trivial | exact rfl) (hx : xs.map (XV G fr) = ds := by exact rfl) : VP P G r N is dep eff Q V pend fr H := VP.q i k hx' hok (QV.callP hg hx hp)
theorem VP.v {op : OP} {d : DV} (i : Nat) (hx' : is[i]? = some ⟨dst, g, op⟩) (hs : evP G fr H op = some d) (k : VP P G r N is dep eff Q (i :: V) (i :: pend) (fr.put dst d) H) (hok : vdOk dep eff V i = true := by exact rfl) (hg : GOk g fr := by first | exact trivial | exact rfl) : VP P G r N is dep eff Q V pend fr H := VP.q i k hx' hok (QV.evP hg hs)
end
end
theorem nav {A B : Prop} (k : B) (h : ∀ X : Prop, X = B → Imp X A := by intro X e; (first | refine Imp.st (fun k => RG.nilS k) ?_ | refine Imp.st (fun k => AC.seq k) ?_ | refine Imp.st (fun k => AC.reg k) ?_ | refine Imp.st (fun k => AC.block k) ?_ | refine Imp.st (fun k => AC.cond_t rfl k) ?_ | refine Imp.st (fun k => AC.cond_f rfl k) ?_ | refine Imp.st (fun k => AC.skip k) ?_ | refine Imp.st (fun k => AC.scp k) ?_); exact Imp.of_eq e) : A := h B rfl k
theorem au {A B : Prop} (k : B) (h : ∀ X : Prop, X = B → Imp X A := by intro X e; (repeat (first | refine Imp.st (fun k => RG.z0 k) ?_ | refine Imp.st (fun k => RG.z1 k) ?_ | refine Imp.st (fun k => RG.z2 k) ?_ | refine Imp.st (fun k => RG.z3 k) ?_ | refine Imp.st (fun k => RG.z4 k) ?_ | refine Imp.st (fun k => RG.z5 k) ?_ | refine Imp.st (fun k => RG.z6 k) ?_ | refine Imp.st (fun k => RG.z7 k) ?_ | refine Imp.st (fun k => RG.z8 k) ?_ | refine Imp.st (fun k => RG.z9 k) ?_ | refine Imp.st (fun k => RG.zA k) ?_ | refine Imp.st (fun k => RG.zB k) ?_ | refine Imp.st (fun k => RG.zC k) ?_ | refine Imp.st (fun k => RG.zD k) ?_ | refine Imp.st (fun k => RG.nilS k) ?_ | refine Imp.st (fun k => AC.seq k) ?_ | refine Imp.st (fun k => AC.reg k) ?_ | refine Imp.st (fun k => AC.block k) ?_ | refine Imp.st (fun k => AC.cond_t rfl k) ?_ | refine Imp.st (fun k => AC.cond_f rfl k) ?_ | refine Imp.st (fun k => AC.skip k) ?_ | refine Imp.st (fun k => AC.scp k) ?_)); exact Imp.of_eq e) : A := h B rfl k
theorem al {A B : Prop} (k : B) (h : ∀ X : Prop, X = B → Imp X A := by intro X e; (repeat (first | refine Imp.st (fun k => RG.z0 k) ?_ | refine Imp.st (fun k => RG.z1 k) ?_ | refine Imp.st (fun k => RG.z2 k) ?_ | refine Imp.st (fun k => RG.z3 k) ?_ | refine Imp.st (fun k => RG.z4 k) ?_ | refine Imp.st (fun k => RG.z5 k) ?_ | refine Imp.st (fun k => RG.z6 k) ?_ | refine Imp.st (fun k => RG.z7 k) ?_ | refine Imp.st (fun k => RG.z8 k) ?_ | refine Imp.st (fun k => RG.z9 k) ?_ | refine Imp.st (fun k => RG.zA k) ?_ | refine Imp.st (fun k => RG.zB k) ?_ | refine Imp.st (fun k => RG.zC k) ?_ | refine Imp.st (fun k => RG.zD k) ?_ | refine Imp.st (fun k => RG.nilS k) ?_ | refine Imp.st (fun k => AC.seq k) ?_ | refine Imp.st (fun k => AC.reg k) ?_ | refine Imp.st (fun k => AC.cond_t rfl k) ?_ | refine Imp.st (fun k => AC.cond_f rfl k) ?_ | refine Imp.st (fun k => AC.skip k) ?_ | refine Imp.st (fun k => AC.scp k) ?_)); exact Imp.of_eq e) : A := h B rfl k
section
variable {P : Program} {G : Gl} {r : Option Nat} {N : Nat} {H : Hp}
theorem VP.pe2 {is : List Ins} {dep : Nat → List Nat} {eff V pend : List Nat} {Q : EX → Fr → Hp → Prop} {fr : Fr} {xi xj : Ins} {Ki Kpi Kj Kpj : DV → Hp → Prop} (i j : Nat) (hij : i ≠ j) (hxi : is[i]? = some xi) (hxj : is[j]? = some xj)
  (hok : vdTwo is.length dep eff V i j = true) (hsi : EF P G r N xi Ki Kpi fr H) (hsj : EF P G r N xj Kj Kpj fr H) (hpi : ∀ d fr' H', Kpi d H' → Q (.panic d) fr' H') (hpj : ∀ d fr' H', Kpj d H' → Q (.panic d) fr' H')
  (ki : ∀ d H', Ki d H' → (∀ k ∈ pend.filter fun k => !(dep i).contains k, ∀ y, is[k]? = some y → StabP P G r N (fr.put xi.dst d) H' y) ∧ VP P G r N is dep eff Q (i :: V) (pend.filter fun k => !(dep i).contains k) (fr.put xi.dst d) H')
  (kj : ∀ d H', Kj d H' → (∀ k ∈ pend.filter fun k => !(dep j).contains k, ∀ y, is[k]? = some y → StabP P G r N (fr.put xj.dst d) H' y) ∧ VP P G r N is dep eff Q (j :: V) (pend.filter fun k => !(dep j).contains k) (fr.put xj.dst d) H') : VP P G r N is dep eff Q V pend fr H := by
 unfold vdTwo at hok
 simp only [Bool.and_eq_true, Bool.not_eq_true', List.all_eq_true, Bool.or_eq_true] at hok
 obtain ⟨⟨⟨⟨⟨⟨h1, h2⟩, h3⟩, h4⟩, h5⟩, h6⟩, h7⟩ := hok
 have hsel : ∀ {α : Type} (a b : α), (if i = i then a else b) = a ∧ (if j = i then a else b) = b := fun a b => ⟨if_pos rfl, if_neg (Ne.symm hij)⟩
 refine VP.effs [i, j] (fun k => if k = i then xi else xj) (fun k => if k = i then Ki else Kj) (fun k => if k = i then Kpi else Kpj) (by simp) (fun a ha => ?_) (fun a ha haV hd => ?_) (fun a ha => ?_) (fun a ha d fr' H' hk => ?_) (fun a ha d H' hK b hb hbd y hy => ?_) (fun a ha d H' hK => ?_)
 · simp only [List.mem_cons, List.not_mem_nil, or_false] at ha
   rcases ha with rfl | rfl
   · rw [if_pos rfl]
     exact ⟨hxi, by simpa using h1, by simpa using h3, fun b hb => by have := h5 b hb; simpa using this⟩
   · rw [if_neg (Ne.symm hij)]
     exact ⟨hxj, by simpa using h2, by simpa using h4, fun b hb => by have := h6 b hb; simpa using this⟩
 · have := h7 a (by simpa using ha)
   rcases this with ((h | h) | h) | h
   · have : a = i := by simpa using h
     simp [this]
   · have : a = j := by simpa using h
     simp [this]
   · exact absurd (by simpa using h) haV
   · have e : (dep a).all V.contains = true := List.all_eq_true.2 fun k hk => by simpa using hd k hk
     rw [e] at h; cases h
 · simp only [List.mem_cons, List.not_mem_nil, or_false] at ha
   rcases ha with rfl | rfl
   · rw [if_pos rfl, if_pos rfl, if_pos rfl]; exact hsi
   · rw [if_neg (Ne.symm hij), if_neg (Ne.symm hij), if_neg (Ne.symm hij)]; exact hsj
 · simp only [List.mem_cons, List.not_mem_nil, or_false] at ha
   rcases ha with rfl | rfl
   · rw [if_pos rfl] at hk; exact hpi d fr' H' hk
   · rw [if_neg (Ne.symm hij)] at hk; exact hpj d fr' H' hk
 · simp only [List.mem_cons, List.not_mem_nil, or_false] at ha
   rcases ha with rfl | rfl
   · rw [if_pos rfl] at hK ⊢
     exact (ki d H' hK).1 b (by rw [List.mem_filter]; exact ⟨hb, by simpa using hbd⟩) y hy
   · rw [if_neg (Ne.symm hij)] at hK ⊢
     exact (kj d H' hK).1 b (by rw [List.mem_filter]; exact ⟨hb, by simpa using hbd⟩) y hy
 · simp only [List.mem_cons, List.not_mem_nil, or_false] at ha
   rcases ha with rfl | rfl
   · rw [if_pos rfl] at hK ⊢
     exact (ki d H' hK).2
   · rw [if_neg (Ne.symm hij)] at hK ⊢
     exact (kj d H' hK).2
theorem splice_mid {cs zs ys rest : List DV} (h : zs.length = ys.length) : spliceL cs.length ys (cs ++ zs ++ rest) = cs ++ ys ++ rest := by
 unfold spliceL
 rw [List.append_assoc cs zs rest, List.take_left, ← List.drop_drop, List.drop_left, ← h, List.drop_left]
section
variable {is : List Ins} {dep : Nat → List Nat} {eff V pend : List Nat} {Q : EX → Fr → Hp → Prop} {fr : Fr} {dst : Option Nat} {g : Option (Nat × Bool)}
end
end
section
variable {P : Program} {G : Gl}
end
section
variable {P : Program} {G : Gl} {r : Option Nat} {N : Nat} {w : World} {H : Hp} {Z : Zn}
def mpo (l : List (List UInt8 × Int)) : DO := .mapo (l.map fun p => (.str p.1, .int .i64 p.2))
def mget (l : List (List UInt8 × Int)) (s : List UInt8) : Option Int := (l.find? fun p => p.1 == s).map (·.2)
def mset : List (List UInt8 × Int) → List UInt8 → Int → List (List UInt8 × Int)
 | [], s, v => [(s, v)]
 | p :: l, s, v => bif p.1 == s then (s, v) :: l else p :: mset l s v
def MR : List MapEntry → List (List UInt8 × Int) → Prop
 | [], [] => True
 | m :: ms, p :: l => (∃ s : ByteArray, m.key = .string s ∧ s.data.toList = p.1) ∧ m.val = .int .i64 p.2 ∧ MR ms l
 | _, _ => False
theorem MR.of : ∀ (ms : List MapEntry) (l : List (List UInt8 × Int)), ms.length = l.length → (∀ (j : Nat) (m : MapEntry) (p : List UInt8 × Int), ms[j]? = some m → l[j]? = some p → VR w H Z m.key (.str p.1) ∧ VR w H Z m.val (.int .i64 p.2)) → MR ms l
 | [], [], _, _ => trivial
 | [], _ :: _, h, _ => by simp at h
 | _ :: _, [], h, _ => by simp at h
 | m :: ms, p :: l, h, hh => by
   obtain ⟨h1, h2⟩ := hh 0 m p rfl rfl
   obtain ⟨s, e1, e2⟩ := h1.str_inv
   exact ⟨⟨s, e1, e2⟩, h2.int_inv, MR.of ms l (by simpa using h) fun j m p a b => hh (j + 1) m p (by simpa using a) (by simpa using b)⟩
theorem MR.at : ∀ {ms : List MapEntry} {l : List (List UInt8 × Int)}, MR ms l → ms.length = l.length ∧ ∀ (j : Nat) (m : MapEntry) (p : List UInt8 × Int), ms[j]? = some m → l[j]? = some p → VR w H Z m.key (.str p.1) ∧ VR w H Z m.val (.int .i64 p.2)
 | [], [], _ => ⟨rfl, fun j m p h => by simp at h⟩
 | [], _ :: _, h => h.elim
 | _ :: _, [], h => h.elim
 | m :: ms, p :: l, ⟨⟨s, e1, e2⟩, e3, h⟩ => by
   obtain ⟨h1, h2⟩ := MR.at h
   refine ⟨by simp [h1], fun j m' p' a b => ?_⟩
   cases j with
   | zero => simp at a b; subst a; subst b; rw [e1, e3]; exact ⟨.str _ _ e2, .int _ _⟩
   | succ j => exact h2 j m' p' (by simpa using a) (by simpa using b)
theorem ba_beq {a b : ByteArray} : (a == b) = (b.data.toList == a.data.toList) := by
 have h : (a == b) = (a.data == b.data) := by cases a; cases b; rfl
 rw [h, Array.beq_toList, Bool.eq_iff_iff, beq_iff_eq, beq_iff_eq]
 exact ⟨Eq.symm, Eq.symm⟩
theorem ba_eq {a b : ByteArray} (h : (a == b) = true) : a = b := by
 have h' : (a == b) = (a.data == b.data) := by cases a; cases b; rfl
 rw [h', beq_iff_eq] at h
 cases a; cases b; exact congrArg _ h
theorem MR.find {s : ByteArray} : ∀ {ms : List MapEntry} {l : List (List UInt8 × Int)} (i : Nat), MR ms l →
  (∃ j v e, Instr.findNow .string (.string s) ms i = some (some (i + j, .int .i64 v)) ∧ mget l s.data.toList = some v ∧ ms[j]? = some e ∧ e.key = .string s ∧ ∀ x, MR (ms.modify j fun e => { e with key := .string s, val := .int .i64 x }) (mset l s.data.toList x)) ∨
  (Instr.findNow .string (.string s) ms i = some none ∧ mget l s.data.toList = none ∧ ∀ x b, MR (ms ++ [{ key := .string s, val := .int .i64 x, born := b }]) (mset l s.data.toList x))
 | [], [], i, _ => .inr ⟨rfl, rfl, fun x b => ⟨⟨s, rfl, rfl⟩, rfl, trivial⟩⟩
 | [], _ :: _, _, h => h.elim
 | _ :: _, [], _, h => h.elim
 | m :: ms, p :: l, i, ⟨⟨a, e1, e2⟩, e3, h⟩ => by
   have hs : Instr.sameNow .string (.string s) m.key = some (s == a) := by rw [e1]; rfl
   rw [Instr.findNow, hs]
   have hb : (s == a) = (p.1 == s.data.toList) := by rw [ba_beq, e2]
   rw [hb, mget, List.find?_cons]
   simp only [mset]
   cases c : p.1 == s.data.toList
   · rcases MR.find (s := s) (i + 1) h with ⟨j, v, e, g1, g2, g3, g4, g5⟩ | ⟨g1, g2, g3⟩
     · refine .inl ⟨j + 1, v, e, ?_, g2, by simpa using g3, g4, fun x => ?_⟩
       · rw [show i + (j + 1) = i + 1 + j by omega]; exact g1
       · rw [cond_false, List.modify_succ_cons]
         exact ⟨⟨a, e1, e2⟩, e3, g5 x⟩
     · refine .inr ⟨g1, g2, fun x b => ?_⟩
       rw [cond_false]
       exact ⟨⟨a, e1, e2⟩, e3, g3 x b⟩
   · have hsa : s = a := by rw [c] at hb; exact ba_eq hb
     subst hsa
     refine .inl ⟨0, p.2, m, by rw [e3]; rfl, rfl, rfl, e1, fun x => ?_⟩
     rw [cond_true, List.modify_zero_cons]
     exact ⟨⟨s, rfl, rfl⟩, rfl, h⟩
theorem set_map (hr : HR G w H Z) {b : Nat} {l l' : List (List UInt8 × Int)} (hb : H b = some (mpo l)) {ms ms' : Array MapEntry} {c c' : Nat} (hw : w.heap[b]? = some (.map ms c)) (hm : MR ms'.toList l') :
  HR G { w with heap := w.heap.setIfInBounds b (.map ms' c') } (H.upd b (some (mpo l'))) Z ∧ Ext w H Z { w with heap := w.heap.setIfInBounds b (.map ms' c') } (H.upd b (some (mpo l'))) Z := by
 have hd := hr.dom b _ hb
 have hne : ∀ k, k ≠ b → (w.heap.setIfInBounds b (.map ms' c'))[k]? = w.heap[k]? := fun k hk => (MapKept.heap_set hw).2 k hk
 have hx : Ext w H Z { w with heap := w.heap.setIfInBounds b (.map ms' c') } (H.upd b (some (mpo l'))) Z := {
  size := by simp
  os := rfl
  tape := rfl
  output := rfl
  imm := fun k hk => by
   have hkl : k ≠ b := fun e => hd.2 (e ▸ hk)
   exact ⟨hk, by rw [Hp.upd_ne hkl]; exact hr.apart hk, hne k hkl⟩
  priv := fun k hk hz hh => by
   have hkl : k ≠ b := fun e => by rw [e, hb] at hh; cases hh
   exact ⟨hz, by rw [Hp.upd_ne hkl]; exact hh, hne k hkl⟩
  frt := fun k f' s' ty' hk _ => by
   have hkl : k ≠ b := fun e => by rw [e, Hp.upd_same] at hk; cases hk
   rw [Hp.upd_ne hkl] at hk
   exact ⟨f', hk, Nat.le_refl _⟩
  pre := fun k f' s' ty' hk => by
   have hkl : k ≠ b := fun e => by rw [e, hb] at hk; cases hk
   exact ⟨.inr ⟨f', Nat.le_refl _, by rw [Hp.upd_ne hkl]; exact hk⟩, fun a z ha => ⟨a, z, (hne k hkl).trans ha, rfl, fun _ _ => rfl⟩⟩ }
 refine ⟨⟨fun k o e => ?_, fun k hk => by simpa using hr.zlt k hk, fun k o e => ?_, fun g cs e => (hr.glob g cs e).ext hr hx⟩, hx⟩
 · by_cases h : k = b
   · subst h; exact ⟨by simpa using hd.1, hd.2⟩
   · rw [Hp.upd_ne h] at e
     have := hr.dom k o e
     exact ⟨by simpa using this.1, this.2⟩
 · by_cases h : k = b
   · subst h
     rw [Hp.upd_same] at e
     cases e
     obtain ⟨h1, h2⟩ := MR.at (w := { w with heap := w.heap.setIfInBounds k (.map ms' c') }) (H := H.upd k (some (mpo l'))) (Z := Z) hm
     refine ⟨ms', c', (MapKept.heap_set hw).1, by simpa using h1, fun j m e hj he => ?_⟩
     rw [List.getElem?_map] at he
     obtain ⟨p, hp, rfl⟩ := Option.map_eq_some_iff.1 he
     exact h2 j m p (by rw [Array.getElem?_toList]; exact hj) hp
   · rw [Hp.upd_ne h] at e
     exact (hr.obj k o e).ext hr hx (hne k h)
theorem map_at (hr : HR G w H Z) {b : Nat} {l : List (List UInt8 × Int)} (hb : H b = some (mpo l)) : ∃ ms c, w.heap[b]? = some (.map ms c) ∧ MR ms.toList l := by
 obtain ⟨ms, c, h1, h2, h3⟩ := hr.obj b _ hb
 refine ⟨ms, c, h1, MR.of (w := w) (H := H) (Z := Z) _ _ (by simpa using h2) fun j m p hj hp => ?_⟩
 exact h3 j m (.str p.1, .int .i64 p.2) (by rw [← Array.getElem?_toList]; exact hj) (by rw [List.getElem?_map, hp]; rfl)
theorem ST.mkmap {t : TypeId} {dst : Option Nat} {K : Fr → Hp → Prop} {Q : EX → Fr → Hp → Prop} {fr : Fr} (h : ∀ b, H b = none → K (fr.put dst (.mapr b)) (H.upd b (some (mpo [])))) : ST P G r N (.oth (.makeMap t none)) dst K Q fr H := by
 intro n base w Z a o hc hx hd hr hf
 have ho := cOp_oth hc
 obtain ⟨h1, h2⟩ := alloc_tracked hr (.map #[] 0) (mpo []) (fun hx => ⟨#[], 0, heap_alloc_new w _, rfl, fun j m e h => by simp at h⟩)
 refine wpIn_value (v := .map (some w.heap.size)) (by rw [ho]; intro c e; cases e) ?_ ⟨_, _, Z, h w.heap.size (hr.free (Nat.le_refl _)), h1, ?_, h2⟩
 · simp only [execOp, ho, Sem.run_bind, Option.map_none, run_makeMap, Result.andThen_ok, Sem.run_pure]
 · rw [hd]; exact (hf.ext hr h2).putO (.mapr _)
variable {kt et mt : TypeId} {i : TypeInfo}
theorem run_lookup (hm : P.underlying mt = some (.map kt et)) (hk : P.underlying kt = some .string) (hi : P.info? et = some i) (hz : i.zero = some (.int .i64 0)) (hr : HR G w H Z) {b : Nat} {l : List (List UInt8 × Int)} (hb : H b = some (mpo l)) (s : ByteArray) (ok : Bool) :
  (Instr.lookup mt (.map (some b)) (.string s) ok).run P w = .ok (if ok then .tuple #[.int .i64 ((mget l s.data.toList).getD 0), .bool (mget l s.data.toList).isSome] else .int .i64 ((mget l s.data.toList).getD 0)) w := by
 obtain ⟨ms, c, h1, h2⟩ := map_at hr hb
 have hck := fun e => MapKept.run_checkKey (P := P) (w := w) (k := .string s) hk (by trivial) e 9999
 rcases h2.find (s := s) 0 with ⟨j, v, e, g1, g2, g3, g4, g5⟩ | ⟨g1, g2, g3⟩
 · have hf := MapKept.run_findKey (w := w) hk g1
   rw [g2]
   simp only [Instr.lookup, Sem.run_bind, run_underlying hm, Result.andThen_ok, MapKept.run_getObj_map h1, Sem.run_pure, hck, hf]
   cases ok <;> rfl
 · have hf := MapKept.run_findKey (w := w) hk g1
   rw [g2]
   simp only [Instr.lookup, Sem.run_bind, run_underlying hm, Result.andThen_ok, MapKept.run_getObj_map h1, Sem.run_pure, hck, hf, zeroValue, typeInfo, run_program, hi, hz]
   cases ok <;> rfl
theorem ST.look {t u b : Nat} {s : List UInt8} {l : List (List UInt8 × Int)} {ok : Bool} {dst : Option Nat} {K : Fr → Hp → Prop} {Q : EX → Fr → Hp → Prop} {fr : Fr} (hm : P.underlying mt = some (.map kt et)) (hk : P.underlying kt = some .string) (hi : P.info? et = some i) (hz : i.zero = some (.int .i64 0))
  (ht : fr t = .mapr b) (hu : fr u = .str s) (hb : H b = some (mpo l)) (h : K (fr.put dst (if ok then .tup [.int .i64 ((mget l s).getD 0), .bool (mget l s).isSome] else .int .i64 ((mget l s).getD 0))) H) : ST P G r N (.oth (.lookup mt (.tmp t) (.tmp u) ok)) dst K Q fr H := by
 intro n base w Z a o hc hx hd hr hf
 have ho := cOp_oth hc
 have e1 := hf.vals t (oth_slot (t := t) hx (x := [.tmp t, .tmp u]) rfl (by simp))
 have e2 := hf.vals u (oth_slot (t := u) hx (x := [.tmp t, .tmp u]) rfl (by simp))
 rw [ht] at e1; rw [hu] at e2
 obtain ⟨sb, e3, e4⟩ := e2.str_inv
 have e1' : a.eval (.tmp t) = .map (some b) := by cases e1 : a.eval (.tmp t) <;> (have := hf.vals t (oth_slot (t := t) hx (x := [.tmp t, .tmp u]) rfl (by simp)); rw [ht] at this; simp only [Act.eval] at e1; rw [e1] at this; cases this <;> rfl)
 have e3' : a.eval (.tmp u) = .string sb := e3
 have hrun := run_lookup hm hk hi hz hr hb sb ok
 rw [e4] at hrun
 refine wpIn_value (by rw [ho]; intro c e; cases e) (v := if ok then .tuple #[.int .i64 ((mget l s).getD 0), .bool (mget l s).isSome] else .int .i64 ((mget l s).getD 0)) ?_ ⟨_, H, Z, h, hr, ?_, .refl hr⟩
 · simp only [execOp, ho, Sem.run_bind, e1', e3', hrun, Result.andThen_ok, Sem.run_pure]
 · rw [hd]
   cases ok
   · exact hf.putO (.int _ _)
   · refine hf.putO (.tup _ _ rfl fun j v d hj hd' => ?_)
     match j with
     | 0 => simp at hj hd'; subst hj; subst hd'; exact .int _ _
     | 1 => simp at hj hd'; subst hj; subst hd'; exact .bool _
     | j + 2 => simp at hj
theorem run_mapset (hm : P.underlying mt = some (.map kt et)) (hk : P.underlying kt = some .string) (hr : HR G w H Z) {b : Nat} {l : List (List UInt8 × Int)} (hb : H b = some (mpo l)) (s : ByteArray) (x : Int) :
  ∃ w', (Instr.mapUpdate mt (.map (some b)) (.string s) (.int .i64 x)).run P w = .ok () w' ∧ HR G w' (H.upd b (some (mpo (mset l s.data.toList x)))) Z ∧ Ext w H Z w' (H.upd b (some (mpo (mset l s.data.toList x)))) Z := by
 obtain ⟨ms, c, h1, h2⟩ := map_at hr hb
 have hck := fun e => MapKept.run_checkKey (P := P) (w := w) (k := .string s) hk (by trivial) e 9999
 rcases h2.find (s := s) 0 with ⟨j, v, e, g1, g2, g3, g4, g5⟩ | ⟨g1, g2, g3⟩
 · have hf := MapKept.run_findKey (w := w) hk g1
   have hks : (((ms[0 + j]?).map (·.key)).getD (.string s)) = .string s := by
    rw [Nat.zero_add, ← Array.getElem?_toList, g3]; exact g4
   have hst := MapKept.run_keyThatStays (P := P) (w := w) (d := .string) (k := .string s) (by trivial)
   refine ⟨_, ?_, set_map (c' := c) (ms' := ms.modify (0 + j) fun e => { e with key := .string s, val := .int .i64 x }) hr hb h1 ?_⟩
   · simp only [Instr.mapUpdate, Sem.run_bind, run_underlying hm, Result.andThen_ok, MapKept.run_getObj_map h1, hck, hf, hks, hst, MapKept.run_setObj_map _ h1]
   · have := g5 x
     rw [Nat.zero_add, Array.toList_modify]; exact this
 · have hf := MapKept.run_findKey (w := w) hk g1
   refine ⟨_, ?_, set_map (c' := c + 1) (ms' := ms.push { key := .string s, val := .int .i64 x, born := c }) hr hb h1 ?_⟩
   · simp only [Instr.mapUpdate, Sem.run_bind, run_underlying hm, Result.andThen_ok, MapKept.run_getObj_map h1, hck, hf, MapKept.run_setObj_map _ h1]
   · rw [Array.toList_push]; exact g3 x c
theorem ST.mset {t u v b : Nat} {s : List UInt8} {x : Int} {l : List (List UInt8 × Int)} {dst : Option Nat} {K : Fr → Hp → Prop} {Q : EX → Fr → Hp → Prop} {fr : Fr} (hm : P.underlying mt = some (.map kt et)) (hk : P.underlying kt = some .string)
  (ht : fr t = .mapr b) (hu : fr u = .str s) (hv : fr v = .int .i64 x) (hb : H b = some (mpo l)) (h : K (fr.put dst .junk) (H.upd b (some (mpo (mset l s x))))) : ST P G r N (.oth (.mapUpdate mt (.tmp t) (.tmp u) (.tmp v))) dst K Q fr H := by
 intro n base w Z a o hc hx hd hr hf
 have ho := cOp_oth hc
 have e1 := hf.vals t (oth_slot (t := t) hx (x := [.tmp t, .tmp u, .tmp v]) rfl (by simp))
 have e2 := hf.vals u (oth_slot (t := u) hx (x := [.tmp t, .tmp u, .tmp v]) rfl (by simp))
 have e5 := hf.vals v (oth_slot (t := v) hx (x := [.tmp t, .tmp u, .tmp v]) rfl (by simp))
 rw [ht] at e1; rw [hu] at e2; rw [hv] at e5
 obtain ⟨sb, e3, e4⟩ := e2.str_inv
 have e1' : a.eval (.tmp t) = .map (some b) := by
  show a.tmps.getD t undef = _
  generalize a.tmps.getD t undef = q at e1
  cases e1; rfl
 have e3' : a.eval (.tmp u) = .string sb := e3
 have e5' : a.eval (.tmp v) = .int .i64 x := e5.int_inv
 obtain ⟨w', h1, h2, h3⟩ := run_mapset hm hk hr hb sb x
 rw [e4] at h2 h3
 refine wpIn_skipped (by rw [ho]; intro c e; cases e) ?_ ⟨_, _, Z, h, h2, ?_, h3⟩
 · simp only [execOp, ho, Sem.run_bind, e1', e3', e5', h1, Result.andThen_ok, Sem.run_pure]
 · rw [hd]; exact (hf.ext hr h3).putO (.junk _)
end
section
variable {P : Program} {G : Gl} {r : Option Nat} {N : Nat} {w : World} {H : Hp} {Z : Zn}
theorem ST.bslW {ty len sz : Nat} {zs cs : List DV} {ps : List (Nat × Nat × X)} {dst : Option Nat} {K : Fr → Hp → Prop} {Q : EX → Fr → Hp → Prop} {fr : Fr} (hb : bldD (XV G fr) ps zs = some cs)
  (h : ∀ b, H b = none → K (fr.put dst (.win b 0 len len)) (H.upd b (some (.cells cs ty)))) : ST P G r N (.bsl ty len sz zs ps) dst K Q fr H := by
 intro n base w Z a o hc hx hd hr hf
 obtain ⟨t, qs, z, ho, hu, hz, hsz, hle, hpos, rfl, rfl⟩ := cOp_bsl hc
 obtain ⟨i, z0, hi, hz0, hz1, hz2, hz3⟩ := zeroT_sound hz
 have hsi : i.size = sz := by omega
 have hrl := zeros_RL (w := w) (H := H) (Z := Z) (n := len) hz3 (by omega)
 rw [hz1, hsi] at hrl
 have hx' := List.all_eq_true.1 hx
 obtain ⟨arr', k1, k2⟩ := fill_sound (w := w) (H := H) (Z := Z) (place := fun n => some (n * sz, sz)) (fr := fr) (G := G) (ρ := a.eval) qs.toList _ _ _ cs (by simp) (fun j p q e1 e2 => by
  rw [List.getElem?_map, e1] at e2
  cases e2
  refine ⟨rfl, cX_sound hr hf ?_⟩
  have : cX p.2 ∈ (qs.toList.map fun p => ((p.1 * sz, sz, cX p.2) : Nat × Nat × X)).map (·.2.2) := List.mem_map.2 ⟨_, List.mem_map.2 ⟨p, List.mem_of_getElem? e1, rfl⟩, rfl⟩
  exact hx' _ this) hrl hb
 obtain ⟨h1, h2⟩ := alloc_cells hr k2 ty
 have hrun : (Instr.buildSlice t len (qs.map fun p => (p.1, a.eval p.2))).run P w = .ok (.slice (some ⟨w.heap.size, 0, none⟩) len len) (w.alloc (.cells arr' ty)) := by
  have hno : ¬ (len * sz > 2 ^ 24) := by omega
  by_cases hz : len * sz = 0
  · have hl0 : len = 0 := by rcases Nat.mul_eq_zero.1 hz with h | h; exact h; omega
    subst hl0
    have ea : (Array.range (0 * sz)).map (z0.cells[· % z0.cells.size]!) = #[] := by simp
    rw [ea] at k1
    have e0 : Array.range 0 = (#[] : Array Nat) := rfl
    simp [Instr.buildSlice, run_underlying hu, run_sizeOf hi, newRow, hsi, e0, k1]
    try rfl
  · have hz' : ¬ (len = 0 ∨ sz = 0) := by intro h; rcases h with h | h <;> simp [h] at hz
    simp only [Instr.buildSlice, Sem.run_bind, run_underlying hu, Result.andThen_ok, run_sizeOf hi, hsi]
    rw [if_neg hno, if_neg hz]
    simp [zeroValue, typeInfo, hi, hz0, newRow, k1]
    try rfl
 refine wpIn_value (v := .slice (some ⟨w.heap.size, 0, none⟩) len len) (by rw [ho]; intro c e; cases e) (by simp only [execOp, ho, Sem.run_bind, hrun, Result.andThen_ok, Sem.run_pure]) ⟨_, _, Z, h w.heap.size (hr.free (Nat.le_refl _)), h1, ?_, h2⟩
 rw [hd]; exact (hf.ext hr h2).putO (.win _ _ _ _ (Nat.le_refl _))
theorem frz_sound (hr : HR G w H Z) {g n cap sz : Nat} {ls rest : List DV} {ty : TypeId} (hg : H g = some (.cells (ls ++ rest) ty)) (hl : ls.length = n * sz) {v : Value} (hv : VR w H Z v (.win g 0 n cap)) :
  ∃ Z', HR G w (H.upd g none) Z' ∧ Ext w H Z w (H.upd g none) Z' ∧ VR w (H.upd g none) Z' v (.lst ls n sz none) := by
 have hs1 : SubH (H.upd g none) H := by
  intro q o e
  by_cases h : q = g
  · subst h; rw [Hp.upd_same] at e; cases e
  · rw [Hp.upd_ne h] at e; exact e
 refine ⟨_, hr.drop hs1, (Ext.refl hr).drop hs1, ?_⟩
 have hZg : (Gone H (H.upd g none) Z) g := .inr ⟨⟨_, hg⟩, Hp.upd_same⟩
 obtain ⟨garr, gfz, gw, _, gsz, gone, gval⟩ := hr.obj g _ hg
 have hle : n ≤ cap ∧ v = .slice (some ⟨g, 0, none⟩) n cap := by cases hv; exact ⟨by assumption, rfl⟩
 obtain ⟨hle, rfl⟩ := hle
 have hgl : ∀ j, j < ls.length → ∃ x, garr[j]? = some x := fun j hj => by
  have : j < garr.size := by rw [gsz, List.length_append]; omega
  exact ⟨_, Array.getElem?_eq_getElem this⟩
 refine .lst (some ⟨g, 0, none⟩) n cap sz ls none (fun j => garr.getD j undef) hl hle (fun j hj => ⟨_, rfl, rfl, ?_, .inl hZg⟩) (fun j hj => ?_) (fun j d hd => ?_) (fun b off e => by cases e)
 · obtain ⟨x, hx⟩ := hgl j hj
   rw [cell_of_row _ _ _ _ _ _ gw, Nat.zero_add, hx]
   simp [Array.getD_eq_getD_getElem?, hx]
 · obtain ⟨x, hx⟩ := hgl j hj
   have : garr.getD j undef = x := by simp [Array.getD_eq_getD_getElem?, hx]
   rw [this]; exact gone j x hx
 · have hj : j < ls.length := (List.getElem?_eq_some_iff.1 hd).1
   obtain ⟨x, hx⟩ := hgl j hj
   have : garr.getD j undef = x := by simp [Array.getD_eq_getD_getElem?, hx]
   rw [this]
   exact (gval j x d hx (by rw [List.getElem?_append_left hj]; exact hd)).drop hs1
theorem RG.frz {t g n cap sz : Nat} {ls rest : List DV} {ty : TypeId} {l : List Ins} {Q : EX → Fr → Hp → Prop} {fr : Fr} (ht : fr t = .win g 0 n cap) (hg : H g = some (.cells (ls ++ rest) ty)) (hl : ls.length = n * sz)
  (k : RG P G r N l Q (fr.set t (.lst ls n sz none)) (H.upd g none)) : RG P G r N l Q fr H := by
 intro m base w Z a ops is hm hr hf
 by_cases hN : t < N
 · have hv := hf.vals t hN
   rw [ht] at hv
   obtain ⟨Z', h1, h2, h3⟩ := frz_sound hr hg hl hv
   have hf' := hf.ext hr h2
   have hf2 : FR w (H.upd g none) Z' base N a (fr.set t (.lst ls n sz none)) := ⟨hf'.size, fun u hu => by
    by_cases e : u = t
    · subst e; simpa [Fr.set] using h3
    · have hb : Nat.beq u t = false := by
       cases hb : Nat.beq u t with
       | false => rfl
       | true => exact absurd (Nat.eq_of_beq_eq_true hb) e
      simpa [Fr.set, hb] using hf'.vals u hu, hf'.marks, hf'.low⟩
   exact wpOpsIn_mono (fun _ _ _ hp => hp.before h2) _ _ _ (k m base w Z' a ops is hm h1 hf2)
 · have hs1 : SubH (H.upd g none) H := by
    intro q o e
    by_cases h : q = g
    · subst h; rw [Hp.upd_same] at e; cases e
    · rw [Hp.upd_ne h] at e; exact e
   have hf' := hf.drop hs1
   have hf2 : FR w (H.upd g none) (Gone H (H.upd g none) Z) base N a (fr.set t (.lst ls n sz none)) := ⟨hf'.size, fun u hu => by
    have hb : Nat.beq u t = false := by
     cases hb : Nat.beq u t with
     | false => rfl
     | true => exact absurd (Nat.eq_of_beq_eq_true hb ▸ hu) hN
    simpa [Fr.set, hb] using hf'.vals u hu, hf'.marks, hf'.low⟩
   exact wpOpsIn_mono (fun _ _ _ hp => hp.before ((Ext.refl hr).drop hs1)) _ _ _ (k m base w _ a ops is hm (hr.drop hs1) hf2)
end
end Go.Run
