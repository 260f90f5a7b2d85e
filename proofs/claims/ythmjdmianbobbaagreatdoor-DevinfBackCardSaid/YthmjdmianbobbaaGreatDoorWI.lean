/- Part 9 of a proof: texts D3 E1 E2 E3 E4 E5 N25 N26 N27 N28 N29. -/
import Derived.Test.YthmjdmianbobbaaGreatDoorWH
import Derived.Lib.ValidLaws
import Derived.KernelRfl
namespace Go.Run.Tryz
open Go Go.Run
open Go.Proofs.Tryz (prog)
theorem shown_of {t : List UInt8} (h : ∀ c ∈ t, 32 ≤ c.toNat ∧ c.toNat < 128) : shownF t = true := by
 have h1 : Lib.validD t = true := by
  rw [Lib.validD_ascii t.length t (fun b hb => (h b (List.mem_of_mem_take hb)).2), List.drop_length]
  rfl
 have h2 : t.any isCtl = false := by
  rw [List.any_eq_false]
  intro c hc
  have := (h c hc).1
  have hn : ¬ (c < 32) := by rw [UInt8.lt_iff_toNat_lt]; simp; omega
  simp [isCtl, hn]
 rw [shownF, h1, h2]; rfl
theorem leaf_ok {n t : List UInt8} (hn : isName n = true) (hl : t.length ≤ 4000) (hs : shownF t = true) : check1 (leafD n t) = 0 := by
 have h1 : decide (((([] : List El).length : Nat) : Int) > 200) = false := rfl
 have h2 : decide (((([] : List El).length : Nat) : Int) > 0) = false := rfl
 have h3 : decide (((t.length : Nat) : Int) > 4000) = false := by simp; omega
 rw [leafD, check1, hn, h1, h2, h3, hs]; rfl
theorem node_ok {n : List UInt8} {ks : List El} (hn : isName n = true) (hl : ks.length ≤ 200) : check1 (nodeD n ks) = 0 := by
 have h1 : decide (((ks.length : Nat) : Int) > 200) = false := by simp; omega
 have h2 : (decide (((ks.length : Nat) : Int) > 0) && !(([] : List UInt8) == [])) = false := by cases decide (((ks.length : Nat) : Int) > 0) <;> rfl
 rw [nodeD, check1, hn, h1, h2]; rfl
def goodE (e : El) : Prop := check1 e = 0 ∧ gram1 e = 0
theorem leaf_gram {n t : List UInt8} (hr : ruleF 2 n = some wTEXT) : gram1 (leafD n t) = 0 := by
 have h : ruleF (leafD n t).page (leafD n t).name = some wTEXT := hr
 have h2 : fitsF (leafD n t).page wTEXT (leafD n t).kids = true := rfl
 have h3 : wTEXT.isPrefixOf wTEXT = true := rfl
 rw [gram1, h]
 dsimp only
 rw [h2, h3, Bool.not_true, Bool.and_false]; rfl
theorem node_gram {n r : List UInt8} {ks : List El} (hr : ruleF 2 n = some r) (hf : fitsF 2 r ks = true) : gram1 (nodeD n ks) = 0 := by
 have h : ruleF (nodeD n ks).page (nodeD n ks).name = some r := hr
 have h2 : fitsF (nodeD n ks).page r (nodeD n ks).kids = true := hf
 have h3 : (!((nodeD n ks).text == [])) = false := rfl
 rw [gram1, h]
 dsimp only
 rw [h2, h3]; rfl
theorem word_ok {s : List UInt8} (h : wordF s = true) : s ≠ [] ∧ s.length ≤ 60 ∧ shownF s = true := by
 simp only [wordF, Bool.and_eq_true, decide_eq_true_eq] at h
 obtain ⟨⟨h1, h2⟩, h3⟩ := h
 exact ⟨by intro e; subst e; simp at h1, by omega, h3⟩
theorem maybe_ok {s : List UInt8} (h : maybeF s = true) : s.length ≤ 60 ∧ shownF s = true := by
 unfold maybeF at h
 cases e : s == []
 · rw [e, Bool.false_or] at h
   exact (word_ok h).2
 · have : s = [] := by simpa using e
   subst this
   exact ⟨by simp, rfl⟩
theorem dig_ok (k : Int) (h0 : 0 ≤ k) : (digF k).length ≤ 60 ∧ shownF (digF k) = true := by
 have hneg : decide (k < 0) = false := by simp; omega
 rw [digF, hneg, cond_false, List.nil_append]
 refine ⟨?_, shown_of fun c hc => ?_⟩
 · have := digL_len 20 k.natAbs; omega
 · have := digL_digits 20 k.natAbs c hc; omega
theorem leaf_all {n t : List UInt8} (hn : isName n = true) (hr : ruleF 2 n = some wTEXT) (hl : t.length ≤ 60) (hs : shownF t = true) : allE goodE (leafD n t) :=
 ⟨⟨leaf_ok hn (by omega) hs, leaf_gram hr⟩, trivial⟩
theorem say_all {n t : List UInt8} (hn : isName n = true) (hr : ruleF 2 n = some wTEXT) (hl : t.length ≤ 60) (hs : shownF t = true) : ∀ k ∈ sayD n t, allE goodE k := by
 intro k hk
 unfold sayD at hk
 cases e : t == []
 · rw [e, cond_false, List.mem_singleton] at hk
   subst hk
   exact leaf_all hn hr hl hs
 · rw [e, cond_true] at hk; simp at hk
theorem form_all {n : List UInt8} (hn : isName n = true) (hr : ruleF 2 n = some [67, 84, 84, 121, 112, 101, 32, 86, 101, 114, 67, 84]) {f : Frm} (h : frmOk f = true) : allE goodE (formD n f) := by
 simp only [frmOk, Bool.and_eq_true] at h
 have h1 := (word_ok h.1).2
 have h2 := (word_ok h.2).2
 refine ⟨⟨node_ok hn (by simp), node_gram hr rfl⟩, ?_, ?_, trivial⟩
 · exact leaf_all rfl rule_CT h1.1 h1.2
 · exact leaf_all rfl rule_Ver h2.1 h2.2
theorem told_all {n : List UInt8} (hn : isName n = true) (hn2 : isName (n ++ nPref) = true) (hr : ruleF 2 n = some [67, 84, 84, 121, 112, 101, 32, 86, 101, 114, 67, 84]) (hr2 : ruleF 2 (n ++ nPref) = some [67, 84, 84, 121, 112, 101, 32, 86, 101, 114, 67, 84]) {l : List Frm} (h : ∀ f ∈ l, frmOk f = true) : ∀ k ∈ toldD n l, allE goodE k := by
 intro k hk
 cases l with
 | nil => simp [toldD] at hk
 | cons f l =>
   rw [toldD, List.mem_cons] at hk
   rcases hk with rfl | hk
   · exact form_all hn2 hr2 (h f (by simp))
   · obtain ⟨g, hg, rfl⟩ := List.mem_map.1 hk
     exact form_all hn hr (h g (by simp [hg]))
theorem fits_step {p : Int} {w : List UInt8} {ws : List (List UInt8)} {ks r : List El} (h : takeW p w ks = some r) (k : fitsW p ws r = true) : fitsW p (w :: ws) ks = true := by
 rw [fitsW, h]; exact k
theorem tk_one {p : Int} {w : List UInt8} {k : El} {r : List El} (hT : (w == wTEXT) = false) (hm : (markF w == 42 || markF w == 43) = false) (ho : oneF p (namesF w) k = true) : takeW p w (k :: r) = some r := by
 rw [takeW, hT, hm]; dsimp only [cond_false]; rw [ho]; rfl
theorem tk_miss {p : Int} {w : List UInt8} {k : El} {r : List El} (hT : (w == wTEXT) = false) (hm : (markF w == 42 || markF w == 43) = false) (ho : oneF p (namesF w) k = false) (h63 : (markF w == 63) = true) : takeW p w (k :: r) = some (k :: r) := by
 rw [takeW, hT, hm]; dsimp only [cond_false]; rw [ho, h63]; rfl
theorem drop_all {α : Type} {q : El → Bool} (f : α → El) (hf : ∀ x, q (f x) = true) : ∀ (l : List α) (r : List El), (l.map f ++ r).dropWhile q = r.dropWhile q
 | [], r => rfl
 | x :: l, r => by rw [List.map_cons, List.cons_append, List.dropWhile_cons, hf, if_pos rfl]; exact drop_all f hf l r
theorem tk_star {α : Type} {p : Int} {w : List UInt8} (f : α → El) {l : List α} {k : El} {r : List El} (hT : (w == wTEXT) = false) (hm : (markF w == 42) = true) (hf : ∀ x, oneF p (namesF w) (f x) = true) (hk : oneF p (namesF w) k = false) :
  takeW p w (l.map f ++ k :: r) = some (k :: r) := by
 rw [takeW.eq_def, hT, hm]
 dsimp only [cond_false, Bool.true_or, cond_true]
 rw [drop_all f hf, List.dropWhile_cons, hk, if_neg (by simp), Bool.not_true, Bool.and_false]
 rfl
theorem tk_plus {α : Type} {p : Int} {w : List UInt8} (f : α → El) {l : List α} (hT : (w == wTEXT) = false) (hm : (markF w == 43) = true) (h42 : (markF w == 42) = false) (hf : ∀ x, oneF p (namesF w) (f x) = true) (hl : 0 < l.length) :
  takeW p w (l.map f) = some [] := by
 have hd := drop_all f hf l []
 rw [List.append_nil] at hd
 rw [takeW.eq_def, hT, hm, h42]
 dsimp only [cond_false, Bool.false_or, cond_true]
 rw [hd]
 have : decide (([] : List El).length < (l.map f).length) = true := by simp; omega
 show (bif !(decide (([] : List El).length < (l.map f).length)) && _ then none else some []) = _
 rw [this]; rfl
theorem say_one {n t : List UInt8} (h : t ≠ []) : sayD n t = [leafD n t] := by
 unfold sayD
 cases e : t == []
 · rfl
 · exact absurd (by simpa using e) h
theorem maxD_cases (k : Int) : maxD k = [] ∨ ∃ t, maxD k = [leafD nMax t] := by
 unfold maxD sayD
 cases k == 0
 · cases digF k == []
   · exact .inr ⟨_, rfl⟩
   · exact .inl rfl
 · exact .inl rfl
theorem sayD_cases (n t : List UInt8) : sayD n t = [] ∨ sayD n t = [leafD n t] := by
 unfold sayD
 cases t == []
 · exact .inr rfl
 · exact .inl rfl
theorem fits_Cap {l : List Int} (h : 0 < l.length) : fitsF 2 [83, 121, 110, 99, 84, 121, 112, 101, 43] (l.map kindD) = true := by
 show fitsW 2 [[83, 121, 110, 99, 84, 121, 112, 101, 43]] _ = true
 exact fits_step (tk_plus kindD rfl rfl rfl (fun _ => rfl) h) rfl
theorem fits_Store {ref : List UInt8} {nm : List El} {mx : List El} {f g : Frm} {l m : List Frm} {c : El} (h1 : nm = [] ∨ ∃ t, nm = [leafD nDisp t]) (h2 : mx = [] ∨ ∃ t, mx = [leafD nMax t]) (hc : ∃ ks, c = nodeD nCap ks) :
  fitsF 2 [83, 111, 117, 114, 99, 101, 82, 101, 102, 32, 68, 105, 115, 112, 108, 97, 121, 78, 97, 109, 101, 63, 32, 77, 97, 120, 71, 85, 73, 68, 83, 105, 122, 101, 63, 32, 82, 120, 80, 114, 101, 102, 32, 82, 120, 42, 32, 84, 120, 80, 114, 101, 102, 32, 84, 120, 42, 32, 83, 121, 110, 99, 67, 97, 112] ([leafD nRef ref] ++ nm ++ mx ++ (formD (nRx ++ nPref) f :: l.map (formD nRx)) ++ (formD (nTx ++ nPref) g :: m.map (formD nTx)) ++ [c]) = true := by
 obtain ⟨cks, rfl⟩ := hc
 have hw : wordsF [83, 111, 117, 114, 99, 101, 82, 101, 102, 32, 68, 105, 115, 112, 108, 97, 121, 78, 97, 109, 101, 63, 32, 77, 97, 120, 71, 85, 73, 68, 83, 105, 122, 101, 63, 32, 82, 120, 80, 114, 101, 102, 32, 82, 120, 42, 32, 84, 120, 80, 114, 101, 102, 32, 84, 120, 42, 32, 83, 121, 110, 99, 67, 97, 112] = [[83, 111, 117, 114, 99, 101, 82, 101, 102], [68, 105, 115, 112, 108, 97, 121, 78, 97, 109, 101, 63], [77, 97, 120, 71, 85, 73, 68, 83, 105, 122, 101, 63], [82, 120, 80, 114, 101, 102], [82, 120, 42], [84, 120, 80, 114, 101, 102], [84, 120, 42], [83, 121, 110, 99, 67, 97, 112]] := by kernel_rfl
 rw [fitsF, hw]
 have tail : fitsW 2 [[82, 120, 80, 114, 101, 102], [82, 120, 42], [84, 120, 80, 114, 101, 102], [84, 120, 42], [83, 121, 110, 99, 67, 97, 112]] (formD (nRx ++ nPref) f :: (l.map (formD nRx) ++ (formD (nTx ++ nPref) g :: (m.map (formD nTx) ++ [nodeD nCap cks])))) = true := by
  refine fits_step (tk_one rfl rfl rfl) ?_
  refine fits_step (tk_star (formD nRx) rfl rfl (fun _ => rfl) rfl) ?_
  refine fits_step (tk_one rfl rfl rfl) ?_
  refine fits_step (tk_star (formD nTx) rfl rfl (fun _ => rfl) rfl) ?_
  exact fits_step (tk_one rfl rfl rfl) rfl
 rcases h1 with rfl | ⟨t1, rfl⟩ <;> rcases h2 with rfl | ⟨t2, rfl⟩ <;> simp only [List.append_assoc, List.nil_append, List.cons_append] <;> refine fits_step (tk_one rfl rfl rfl) ?_
 · refine fits_step (tk_miss rfl rfl rfl rfl) (fits_step (tk_miss rfl rfl rfl rfl) tail)
 · refine fits_step (tk_miss rfl rfl rfl rfl) (fits_step (tk_one rfl rfl rfl) tail)
 · refine fits_step (tk_one rfl rfl rfl) (fits_step (tk_miss rfl rfl rfl rfl) tail)
 · refine fits_step (tk_one rfl rfl rfl) (fits_step (tk_one rfl rfl rfl) tail)
theorem frms_split {n : List UInt8} {l : List Frm} (h : 1 ≤ l.length) : ∃ f r, toldD n l = formD (n ++ nPref) f :: r.map (formD n) ∧ l = f :: r := by
 cases l with
 | nil => simp at h
 | cons f r => exact ⟨f, r, rfl, rfl⟩
theorem store_all (p : Plc) (h : placeF p = true) : allE goodE (storeD p) ∧ nodes (storeD p) ≤ 60 ∧ dp (storeD p) ≤ 3 := by
 simp only [placeF, Bool.and_eq_true, decide_eq_true_eq, List.all_eq_true] at h
 obtain ⟨⟨⟨⟨⟨⟨⟨⟨h1, h2⟩, h3⟩, h4⟩, h5⟩, h6⟩, h7⟩, h8⟩, h9⟩ := h
 simp only [formsF, Bool.and_eq_true, decide_eq_true_eq, List.all_eq_true] at h5 h6
 obtain ⟨⟨a1, a2⟩, a3⟩ := h5
 obtain ⟨⟨b1, b2⟩, b3⟩ := h6
 have hkk : ∀ k ∈ p.kinds, 1 ≤ k ∧ k ≤ 99 := fun k hk => by
  have := h9 k hk
  simpa [kindOk] using this
 obtain ⟨w1, w2, w3⟩ := word_ok h1
 obtain ⟨m1, m2⟩ := maybe_ok h2
 obtain ⟨f, l, hf, hfl⟩ := frms_split (n := nRx) a1
 obtain ⟨g, m, hg, hgm⟩ := frms_split (n := nTx) b1
 have lenN : ∀ (n : List UInt8) (x : Frm), nodes (formD n x) ≤ 3 := fun n x => Nat.le_refl _
 have lenL : ∀ (n t : List UInt8), nodess (sayD n t) ≤ 1 ∧ dps (sayD n t) ≤ 1 ∧ (sayD n t).length ≤ 1 := fun n t => by
  rcases sayD_cases n t with e | e <;> rw [e]
  · decide
  · exact ⟨Nat.le_refl _, Nat.le_refl _, Nat.le_refl _⟩
 have lenM : nodess (maxD p.maxId) ≤ 1 ∧ dps (maxD p.maxId) ≤ 1 ∧ (maxD p.maxId).length ≤ 1 := by
  rcases maxD_cases p.maxId with e | ⟨t, e⟩ <;> rw [e]
  · decide
  · exact ⟨Nat.le_refl _, Nat.le_refl _, Nat.le_refl _⟩
 have lenT : ∀ (n : List UInt8) (r : List Frm), nodess (toldD n r) ≤ r.length * 3 ∧ dps (toldD n r) ≤ 2 ∧ (toldD n r).length = r.length := fun n r => by
  cases r with
  | nil => exact ⟨Nat.le_refl _, by simp [toldD, dps], rfl⟩
  | cons x r =>
    have e1 := nodess_map (formD n) 3 r fun y _ => lenN n y
    have e2 := dps_map (formD n) 2 r fun y _ => (Nat.le_refl _ : dp (formD n y) ≤ 2)
    rw [toldD, nodess, dps, List.length_cons, List.length_cons, List.length_map]
    have e3 := lenN (n ++ nPref) x
    have e4 : dp (formD (n ++ nPref) x) ≤ 2 := Nat.le_refl _
    omega
 have lenK : nodess (p.kinds.map kindD) ≤ p.kinds.length * 1 := nodess_map kindD 1 _ fun y _ => Nat.le_refl _
 have depK : dps (p.kinds.map kindD) ≤ 1 := dps_map kindD 1 _ fun y _ => Nat.le_refl _
 obtain ⟨l1, l2, l3⟩ := lenL nRef p.ref
 obtain ⟨l4, l5, l6⟩ := lenL nDisp p.name
 obtain ⟨l7, l8, l9⟩ := lenM
 obtain ⟨q1, q2, q3⟩ := lenT nRx p.takes
 obtain ⟨q4, q5, q6⟩ := lenT nTx p.gives
 refine ⟨?_, ?_, ?_⟩
 · refine ⟨⟨node_ok rfl ?_, node_gram rule_Store ?_⟩, allEs_of _ _ fun k hk => ?_⟩
   · simp only [List.length_append, List.length_singleton]; omega
   · rw [say_one w1, hf, hg]
     refine fits_Store ?_ ?_ ⟨_, rfl⟩
     · rcases sayD_cases nDisp p.name with e | e
       · exact .inl e
       · exact .inr ⟨_, e⟩
     · exact maxD_cases _
   · simp only [List.mem_append, List.mem_singleton] at hk
     rcases hk with ((((hk | hk) | hk) | hk) | hk) | rfl
     · exact say_all rfl rule_Ref w2 w3 k hk
     · exact say_all rfl rule_Disp m1 m2 k hk
     · unfold maxD at hk
       cases e : p.maxId == 0
       · rw [e, cond_false] at hk
         have := dig_ok p.maxId h3
         exact say_all rfl rule_Max this.1 this.2 k hk
       · rw [e, cond_true] at hk; simp at hk
     · exact told_all rfl rfl rule_Rx rule_RxPref a3 k hk
     · exact told_all rfl rfl rule_Tx rule_TxPref b3 k hk
     · refine ⟨⟨node_ok rfl (by rw [List.length_map]; omega), node_gram rule_Cap (fits_Cap (by omega))⟩, allEs_of _ _ fun k hk => ?_⟩
       obtain ⟨y, hy, rfl⟩ := List.mem_map.1 hk
       have := dig_ok y (by have := hkk y hy; omega)
       exact leaf_all rfl rule_Sync this.1 this.2
 · rw [storeD, nodeD, nodes]
   simp only [nodess_append, nodess]
   have : nodes (nodeD nCap (p.kinds.map kindD)) = 1 + nodess (p.kinds.map kindD) := rfl
   omega
 · rw [storeD, nodeD, dp]
   simp only [dps_append, dps]
   have : dp (nodeD nCap (p.kinds.map kindD)) = 1 + dps (p.kinds.map kindD) := rfl
   omega
theorem fits_Dev {d1 d2 d3 d4 d5 : List UInt8} {a b c lg : List El} {l : List Plc} (ha : a = [] ∨ a = [leafD nMan d2]) (hb : b = [] ∨ b = [leafD nMod d3]) (hc : c = [] ∨ c = [leafD nSwV d4]) (hl : lg = [] ∨ lg = [nodeD nLarge []]) (h : 1 ≤ l.length) :
  fitsF 2 [86, 101, 114, 68, 84, 68, 32, 77, 97, 110, 63, 32, 77, 111, 100, 63, 32, 83, 119, 86, 63, 32, 68, 101, 118, 73, 68, 32, 68, 101, 118, 84, 121, 112, 32, 83, 117, 112, 112, 111, 114, 116, 76, 97, 114, 103, 101, 79, 98, 106, 115, 63, 32, 68, 97, 116, 97, 83, 116, 111, 114, 101, 43] ([leafD nDTD dtdF] ++ a ++ b ++ c ++ [leafD nDevID d1] ++ [leafD nDevTyp d5] ++ lg ++ l.map storeD) = true := by
 have hw : wordsF [86, 101, 114, 68, 84, 68, 32, 77, 97, 110, 63, 32, 77, 111, 100, 63, 32, 83, 119, 86, 63, 32, 68, 101, 118, 73, 68, 32, 68, 101, 118, 84, 121, 112, 32, 83, 117, 112, 112, 111, 114, 116, 76, 97, 114, 103, 101, 79, 98, 106, 115, 63, 32, 68, 97, 116, 97, 83, 116, 111, 114, 101, 43] = [[86, 101, 114, 68, 84, 68], [77, 97, 110, 63], [77, 111, 100, 63], [83, 119, 86, 63], [68, 101, 118, 73, 68], [68, 101, 118, 84, 121, 112], [83, 117, 112, 112, 111, 114, 116, 76, 97, 114, 103, 101, 79, 98, 106, 115, 63], [68, 97, 116, 97, 83, 116, 111, 114, 101, 43]] := by kernel_rfl
 rw [fitsF, hw]
 have t1 : fitsW 2 [[68, 97, 116, 97, 83, 116, 111, 114, 101, 43]] (l.map storeD) = true := fits_step (tk_plus storeD rfl rfl rfl (fun _ => rfl) h) rfl
 have t2 : fitsW 2 [[83, 117, 112, 112, 111, 114, 116, 76, 97, 114, 103, 101, 79, 98, 106, 115, 63], [68, 97, 116, 97, 83, 116, 111, 114, 101, 43]] (lg ++ l.map storeD) = true := by
  rcases hl with rfl | rfl
  · cases l with
    | nil => simp at h
    | cons p l => exact fits_step (tk_miss rfl rfl rfl rfl) t1
  · exact fits_step (tk_one rfl rfl rfl) t1
 have t3 : fitsW 2 [[68, 101, 118, 73, 68], [68, 101, 118, 84, 121, 112], [83, 117, 112, 112, 111, 114, 116, 76, 97, 114, 103, 101, 79, 98, 106, 115, 63], [68, 97, 116, 97, 83, 116, 111, 114, 101, 43]] (leafD nDevID d1 :: leafD nDevTyp d5 :: (lg ++ l.map storeD)) = true := fits_step (tk_one rfl rfl rfl) (fits_step (tk_one rfl rfl rfl) t2)
 have t4 : fitsW 2 [[83, 119, 86, 63], [68, 101, 118, 73, 68], [68, 101, 118, 84, 121, 112], [83, 117, 112, 112, 111, 114, 116, 76, 97, 114, 103, 101, 79, 98, 106, 115, 63], [68, 97, 116, 97, 83, 116, 111, 114, 101, 43]] (c ++ leafD nDevID d1 :: leafD nDevTyp d5 :: (lg ++ l.map storeD)) = true := by
  rcases hc with rfl | rfl
  · exact fits_step (tk_miss rfl rfl rfl rfl) t3
  · exact fits_step (tk_one rfl rfl rfl) t3
 have t5 : fitsW 2 [[77, 111, 100, 63], [83, 119, 86, 63], [68, 101, 118, 73, 68], [68, 101, 118, 84, 121, 112], [83, 117, 112, 112, 111, 114, 116, 76, 97, 114, 103, 101, 79, 98, 106, 115, 63], [68, 97, 116, 97, 83, 116, 111, 114, 101, 43]] (b ++ (c ++ leafD nDevID d1 :: leafD nDevTyp d5 :: (lg ++ l.map storeD))) = true := by
  rcases hb with rfl | rfl
  · rcases hc with rfl | rfl
    · exact fits_step (tk_miss rfl rfl rfl rfl) t4
    · exact fits_step (tk_miss rfl rfl rfl rfl) t4
  · exact fits_step (tk_one rfl rfl rfl) t4
 have t6 : fitsW 2 [[77, 97, 110, 63], [77, 111, 100, 63], [83, 119, 86, 63], [68, 101, 118, 73, 68], [68, 101, 118, 84, 121, 112], [83, 117, 112, 112, 111, 114, 116, 76, 97, 114, 103, 101, 79, 98, 106, 115, 63], [68, 97, 116, 97, 83, 116, 111, 114, 101, 43]] (a ++ (b ++ (c ++ leafD nDevID d1 :: leafD nDevTyp d5 :: (lg ++ l.map storeD)))) = true := by
  rcases ha with rfl | rfl
  · rcases hb with rfl | rfl
    · rcases hc with rfl | rfl
      · exact fits_step (tk_miss rfl rfl rfl rfl) t5
      · exact fits_step (tk_miss rfl rfl rfl rfl) t5
    · exact fits_step (tk_miss rfl rfl rfl rfl) t5
  · exact fits_step (tk_one rfl rfl rfl) t5
 simp only [List.append_assoc, List.nil_append, List.cons_append]
 exact fits_step (tk_one rfl rfl rfl) t6
theorem dev_all (d : Dvc) (h : checkD d = 0) : allE goodE (elemD d) ∧ nodes (elemD d) ≤ 2000 ∧ dp (elemD d) ≤ 12 := by
 obtain ⟨⟨h1, h2⟩, hp, hw⟩ := checkD_ok h
 simp only [wordsD, Bool.and_eq_true] at hw
 obtain ⟨⟨⟨⟨g1, g2⟩, g3⟩, g4⟩, g5⟩ := hw
 obtain ⟨u1, u2, u3⟩ := word_ok g4
 obtain ⟨v1, v2, v3⟩ := word_ok g5
 have lenL : ∀ (n t : List UInt8), nodess (sayD n t) ≤ 1 ∧ dps (sayD n t) ≤ 1 ∧ (sayD n t).length ≤ 1 := fun n t => by
  rcases sayD_cases n t with e | e <;> rw [e]
  · decide
  · exact ⟨Nat.le_refl _, Nat.le_refl _, Nat.le_refl _⟩
 obtain ⟨a1, a2, a3⟩ := lenL nDTD dtdF
 obtain ⟨b1, b2, b3⟩ := lenL nMan d.man
 obtain ⟨c1, c2, c3⟩ := lenL nMod d.mod_
 obtain ⟨d1, d2, d3⟩ := lenL nSwV d.soft
 obtain ⟨e1, e2, e3⟩ := lenL nDevID d.id
 obtain ⟨f1, f2, f3⟩ := lenL nDevTyp d.type
 have l7 : nodess (bif d.large then [nodeD nLarge []] else []) ≤ 1 ∧ dps (bif d.large then [nodeD nLarge []] else []) ≤ 1 ∧ (bif d.large then [nodeD nLarge []] else []).length ≤ 1 := by cases d.large <;> decide
 obtain ⟨i1, i2, i3⟩ := l7
 have j1 := nodess_map storeD 60 d.places fun p hpp => (store_all p (hp p hpp)).2.1
 have j2 := dps_map storeD 3 d.places fun p hpp => (store_all p (hp p hpp)).2.2
 refine ⟨⟨⟨node_ok rfl ?_, node_gram rule_DevInf ?_⟩, allEs_of _ _ fun k hk => ?_⟩, ?_, ?_⟩
 · simp only [List.length_append, List.length_map]; omega
 · rw [say_one (n := nDTD) (t := dtdF) (by decide), say_one (n := nDevID) u1, say_one (n := nDevTyp) v1]
   refine fits_Dev (sayD_cases _ _) (sayD_cases _ _) (sayD_cases _ _) ?_ h1
   cases d.large
   · exact .inl rfl
   · exact .inr rfl
 · simp only [List.mem_append] at hk
   rcases hk with ((((((hk | hk) | hk) | hk) | hk) | hk) | hk) | hk
   · exact say_all rfl rule_DTD (by decide) rfl k hk
   · exact say_all rfl rule_Man (maybe_ok g1).1 (maybe_ok g1).2 k hk
   · exact say_all rfl rule_Mod (maybe_ok g2).1 (maybe_ok g2).2 k hk
   · exact say_all rfl rule_SwV (maybe_ok g3).1 (maybe_ok g3).2 k hk
   · exact say_all rfl rule_DevID u2 u3 k hk
   · exact say_all rfl rule_DevTyp v2 v3 k hk
   · cases e : d.large
     · rw [e, cond_false] at hk; simp at hk
     · rw [e, cond_true, List.mem_singleton] at hk
       subst hk
       exact ⟨⟨node_ok rfl (by simp), node_gram rule_Large rfl⟩, trivial⟩
   · obtain ⟨p, hpp, rfl⟩ := List.mem_map.1 hk
     exact (store_all p (hp p hpp)).1
 · rw [elemD, nodeD, nodes]
   simp only [nodess_append]
   omega
 · rw [elemD, nodeD, dp]
   simp only [dps_append]
   omega
mutual
theorem allE_mono {q q' : El → Prop} (hq : ∀ e, q e → q' e) : ∀ (e : El), allE q e → allE q' e
 | .mk _ _ _ _ ks, h => ⟨hq _ h.1, allEs_mono hq ks h.2⟩
theorem allEs_mono {q q' : El → Prop} (hq : ∀ e, q e → q' e) : ∀ (ks : List El), allEs q ks → allEs q' ks
 | [], _ => trivial
 | k :: ks, h => ⟨allE_mono hq k h.1, allEs_mono hq ks h.2⟩
end
theorem gramF_of {e : El} (h : checkF e = 0) : gramF e = gramGo 0 (pre 20 e 1) := by
 unfold gramF
 rw [h]; rfl
theorem dev_law (d : Dvc) (h : checkD d = 0) : checkF (elemD d) = 0 ∧ gramF (elemD d) = (0, 0) ∧ dvcD (elemD d) = d := by
 obtain ⟨h1, h2, h3⟩ := dev_all d h
 have hc := check_of (allE_mono (fun e h => h.1) _ h1) h3 h2
 refine ⟨hc, (gramF_of hc).trans ?_, dev_back d h⟩
 exact gramGo_ok _ 0 fun p hp => pre_all _ 20 (elemD d) 1 (allE_mono (fun e h => h.2) _ h1) p hp
open Go Go.Run Go.RowKit
open Go.Proofs.Tryz (prog)
def F137 : FN := ⟨16, (.seq (.reg [ji 2 (.mv (.c (.bool false)))])
 (.seq (.reg [ji 3 (.mv (.t 0)), ji 4 (.bin .neq (.t 3) (.c (.str []))), ji 5 (.mv (.t 4)), jg 6 5 true (.mv (.t 0)), jg 7 5 true (.len true (.t 6)), jg 8 5 true (.bin .leq (.t 7) (ci 60)), ji 9 (.pick (.t 5) (.t 8) (.c (.bool false))), ji 10 (.mv (.t 9)), jg 11 10 true (.mv (.t 0)), jg 12 10 true (.call 37 [(ci 2), (.c (.str [77, 97, 110])), (.t 11)]), jg 13 10 true (.call 38 [(.t 12)]), jg 14 10 true (.bin .eql (.t 13) (ci 0)), ji 15 (.pick (.t 10) (.t 14) (.c (.bool false))), ji 2 (.mv (.t 15))])
 .ret)), [.tmp 2]⟩
theorem cF137 : cFn prog 137 = some F137 := by kernel_rfl
def F136 : FN := ⟨9, (.seq (.reg [ji 2 (.mv (.c (.bool false)))])
 (.seq (.reg [ji 3 (.mv (.t 0)), ji 4 (.bin .eql (.t 3) (.c (.str []))), ji 5 (.mv (.t 4)), jg 6 5 false (.mv (.t 0)), jg 7 5 false (.call 137 [(.t 6)]), ji 8 (.pick (.t 5) (.c (.bool true)) (.t 7)), ji 2 (.mv (.t 8))])
 .ret)), [.tmp 2]⟩
theorem cF136 : cFn prog 136 = some F136 := by kernel_rfl
def F187 : FN := ⟨16, (.seq (.reg [ji 2 (.mv (.c (.bool false)))])
 (.seq (.reg [ji 3 (.mv (.t 0)), ji 4 (.len false (.t 3)), ji 5 (.bin .geq (.t 4) (ci 1)), ji 6 (.mv (.t 5)), jg 7 6 true (.mv (.t 0)), jg 8 6 true (.len false (.t 7)), jg 9 6 true (.bin .leq (.t 8) (ci 6)), ji 10 (.pick (.t 6) (.t 9) (.c (.bool false))), ji 11 (.mv (.t 10)), jg 12 11 true (.mv (.t 0)), jg 13 11 true (.call 222 [(.t 12), (.c (.func (.func 223) [] []))]), jg 14 11 true (.un .not (.t 13)), ji 15 (.pick (.t 11) (.t 14) (.c (.bool false))), ji 2 (.mv (.t 15))])
 .ret)), [.tmp 2]⟩
theorem cF187 : cFn prog 187 = some F187 := by kernel_rfl
def F223 : FN := ⟨13, (.seq (.reg [ji 1 (.box 115 (.t 0)), ji 2 (.mv (.c (.bool false)))])
 (.seq (.reg [ji 3 (.fadr 0 (.t 1)), ji 4 (.ld false 1 (.t 3)), ji 5 (.call 137 [(.t 4)]), ji 6 (.un .not (.t 5)), ji 7 (.mv (.t 6)), jg 8 7 false (.fadr 1 (.t 1)), jg 9 7 false (.ld false 1 (.t 8)), jg 10 7 false (.call 137 [(.t 9)]), jg 11 7 false (.un .not (.t 10)), ji 12 (.pick (.t 7) (.c (.bool true)) (.t 11)), ji 2 (.mv (.t 12))])
 .ret)), [.tmp 2]⟩
theorem cF223 : cFn prog 223 = some F223 := by kernel_rfl
def F135 : FN := ⟨49, (.seq (.reg [ji 1 (.box 56 (.t 0)), ji 2 (.mv (.c (.bool false)))])
 (.seq (.reg [ji 3 (.fadr 0 (.t 1)), ji 4 (.ld false 1 (.t 3)), ji 5 (.call 137 [(.t 4)]), ji 6 (.mv (.t 5)), jg 7 6 true (.fadr 1 (.t 1)), jg 8 6 true (.ld false 1 (.t 7)), jg 9 6 true (.call 136 [(.t 8)]), ji 10 (.pick (.t 6) (.t 9) (.c (.bool false))), ji 11 (.mv (.t 10)), jg 12 11 true (.fadr 2 (.t 1)), jg 13 11 true (.ld false 1 (.t 12)), jg 14 11 true (.bin .geq (.t 13) (ci 0)), ji 15 (.pick (.t 11) (.t 14) (.c (.bool false))), ji 16 (.mv (.t 15)), jg 17 16 true (.fadr 2 (.t 1)), jg 18 16 true (.ld false 1 (.t 17)), jg 19 16 true (.bin .leq (.t 18) (ci 268435456)), ji 20 (.pick (.t 16) (.t 19) (.c (.bool false))), ji 21 (.mv (.t 20)), jg 22 21 true (.fadr 3 (.t 1)), jg 23 21 true (.ld false 1 (.t 22)), jg 24 21 true (.call 187 [(.t 23)]), ji 25 (.pick (.t 21) (.t 24) (.c (.bool false))), ji 26 (.mv (.t 25)), jg 27 26 true (.fadr 4 (.t 1)), jg 28 26 true (.ld false 1 (.t 27)), jg 29 26 true (.call 187 [(.t 28)]), ji 30 (.pick (.t 26) (.t 29) (.c (.bool false))), ji 31 (.mv (.t 30)), jg 32 31 true (.fadr 5 (.t 1)), jg 33 31 true (.ld false 1 (.t 32)), jg 34 31 true (.len false (.t 33)), jg 35 31 true (.bin .geq (.t 34) (ci 1)), ji 36 (.pick (.t 31) (.t 35) (.c (.bool false))), ji 37 (.mv (.t 36)), jg 38 37 true (.fadr 5 (.t 1)), jg 39 37 true (.ld false 1 (.t 38)), jg 40 37 true (.len false (.t 39)), jg 41 37 true (.bin .leq (.t 40) (ci 8)), ji 42 (.pick (.t 37) (.t 41) (.c (.bool false))), ji 43 (.mv (.t 42)), jg 44 43 true (.fadr 5 (.t 1)), jg 45 43 true (.ld false 1 (.t 44)), jg 46 43 true (.call 188 [(.t 45), (.c (.func (.func 189) [] []))]), jg 47 43 true (.un .not (.t 46)), ji 48 (.pick (.t 43) (.t 47) (.c (.bool false))), ji 2 (.mv (.t 48))])
 .ret)), [.tmp 2]⟩
theorem cF135 : cFn prog 135 = some F135 := by kernel_rfl
def F189 : FN := ⟨9, (.seq (.reg [ji 2 (.mv (.c (.bool false)))])
 (.seq (.reg [ji 3 (.mv (.t 0)), ji 4 (.bin .lss (.t 3) (ci 1)), ji 5 (.mv (.t 4)), jg 6 5 false (.mv (.t 0)), jg 7 5 false (.bin .gtr (.t 6) (ci 99)), ji 8 (.pick (.t 5) (.c (.bool true)) (.t 7)), ji 2 (.mv (.t 8))])
 .ret)), [.tmp 2]⟩
theorem cF189 : cFn prog 189 = some F189 := by kernel_rfl
def F76 : FN := ⟨50, (.seq (.reg [ji 1 (.box 28 (.t 0)), ji 2 (.mv (ci 0))])
 (.seq (.seq (.reg [ji 5 (.fadr 6 (.t 1)), ji 6 (.ld false 1 (.t 5)), ji 7 (.len false (.t 6)), ji 8 (.bin .lss (.t 7) (ci 1)), ji 9 (.mv (.t 8)), jg 10 9 false (.fadr 6 (.t 1)), jg 11 9 false (.ld false 1 (.t 10)), jg 12 9 false (.len false (.t 11)), jg 13 9 false (.bin .gtr (.t 12) (ci 6)), ji 14 (.pick (.t 9) (.c (.bool true)) (.t 13))])
 (.cond (.t 14) (.seq (.reg [ji 2 (.mv (ci 4))])
 .ret)
 .skip))
 (.seq (.seq (.reg [ji 15 (.fadr 6 (.t 1)), ji 16 (.ld false 1 (.t 15)), ji 17 (.len false (.t 16)), ji 18 (.mv (ci 0))])
 (.block 0 (.loop (.seq (.reg [ji 19 (.bin .lss (.t 18) (.t 17))])
 (.seq (.cond (.t 19) .skip
 (.exit 0))
 (.seq (.block 1 (.seq (.reg [ji 20 (.iadr 6 (.t 16) (.t 18)), ji 21 (.ld true 6 (.t 20)), ji 4 (.alloc [(.str []), (.str []), (.int .i64 0), .nils, .nils, .nils] 56), jn (.st 6 (.t 4) (.t 21))])
 (.seq (.reg [ji 22 (.ld true 6 (.t 4)), ji 23 (.call 135 [(.t 22)]), ji 24 (.un .not (.t 23))])
 (.cond (.t 24) (.seq (.reg [ji 2 (.mv (ci 3))])
 .ret)
 .skip))))
 (.reg [ji 25 (.bin .add (.t 18) (ci 1)), ji 18 (.mv (.t 25))])))))))
 (.seq (.seq (.reg [ji 26 (.fadr 0 (.t 1)), ji 27 (.ld false 1 (.t 26)), ji 28 (.call 136 [(.t 27)]), ji 29 (.mv (.t 28)), jg 30 29 true (.fadr 1 (.t 1)), jg 31 29 true (.ld false 1 (.t 30)), jg 32 29 true (.call 136 [(.t 31)]), ji 33 (.pick (.t 29) (.t 32) (.c (.bool false))), ji 34 (.mv (.t 33)), jg 35 34 true (.fadr 2 (.t 1)), jg 36 34 true (.ld false 1 (.t 35)), jg 37 34 true (.call 136 [(.t 36)]), ji 38 (.pick (.t 34) (.t 37) (.c (.bool false))), ji 39 (.mv (.t 38)), jg 40 39 true (.fadr 3 (.t 1)), jg 41 39 true (.ld false 1 (.t 40)), jg 42 39 true (.call 137 [(.t 41)]), ji 43 (.pick (.t 39) (.t 42) (.c (.bool false))), ji 44 (.mv (.t 43)), jg 45 44 true (.fadr 4 (.t 1)), jg 46 44 true (.ld false 1 (.t 45)), jg 47 44 true (.call 137 [(.t 46)]), ji 48 (.pick (.t 44) (.t 47) (.c (.bool false))), ji 49 (.un .not (.t 48))])
 (.cond (.t 49) (.seq (.reg [ji 2 (.mv (ci 3))])
 .ret)
 .skip))
 (.seq (.reg [ji 2 (.mv (ci 0))])
 .ret))))), [.tmp 2]⟩
theorem cF76 : cFn prog 76 = some F76 := by kernel_rfl
def F236 : FN := ⟨19, (.seq (.reg [ji 4 (.mv (ci 0))])
 (.seq (.seq (.reg [ji 6 (.mv (.t 0)), ji 7 (.len false (.t 6)), ji 8 (.mv (ci 0))])
 (.block 0 (.loop (.seq (.reg [ji 9 (.bin .lss (.t 8) (.t 7))])
 (.seq (.cond (.t 9) .skip
 (.exit 0))
 (.seq (.block 1 (.seq (.reg [ji 10 (.mv (.t 8)), ji 5 (.mv (.t 10))])
 (.seq (.reg [ji 11 (.mv (.t 1)), ji 12 (.mv (.t 0)), ji 13 (.mv (.t 5)), ji 14 (.iadr 2 (.t 12) (.t 13)), ji 15 (.ld true 2 (.t 14)), ji 16 (.calv (.t 11) [(.t 15)])])
 (.cond (.t 16) (.seq (.reg [ji 17 (.mv (.t 5)), ji 4 (.mv (.t 17))])
 .ret)
 .skip))))
 (.reg [ji 18 (.bin .add (.t 8) (ci 1)), ji 8 (.mv (.t 18))])))))))
 (.seq (.reg [ji 4 (.mv (.c (.int .i64 (-1))))])
 .ret))), [.tmp 4]⟩
theorem cF236 : cFn prog 236 = some F236 := by kernel_rfl
def F222 : FN := ⟨9, (.seq (.reg [ji 4 (.mv (.c (.bool false)))])
 (.seq (.reg [ji 5 (.mv (.t 0)), ji 6 (.mv (.t 1)), ji 7 (.call 236 [(.t 5), (.t 6)]), ji 8 (.bin .geq (.t 7) (ci 0)), ji 4 (.mv (.t 8))])
 .ret)), [.tmp 4]⟩
theorem cF222 : cFn prog 222 = some F222 := by kernel_rfl
def F224 : FN := ⟨19, (.seq (.reg [ji 4 (.mv (ci 0))])
 (.seq (.seq (.reg [ji 6 (.mv (.t 0)), ji 7 (.len false (.t 6)), ji 8 (.mv (ci 0))])
 (.block 0 (.loop (.seq (.reg [ji 9 (.bin .lss (.t 8) (.t 7))])
 (.seq (.cond (.t 9) .skip
 (.exit 0))
 (.seq (.block 1 (.seq (.reg [ji 10 (.mv (.t 8)), ji 5 (.mv (.t 10))])
 (.seq (.reg [ji 11 (.mv (.t 1)), ji 12 (.mv (.t 0)), ji 13 (.mv (.t 5)), ji 14 (.iadr 1 (.t 12) (.t 13)), ji 15 (.ld false 1 (.t 14)), ji 16 (.calv (.t 11) [(.t 15)])])
 (.cond (.t 16) (.seq (.reg [ji 17 (.mv (.t 5)), ji 4 (.mv (.t 17))])
 .ret)
 .skip))))
 (.reg [ji 18 (.bin .add (.t 8) (ci 1)), ji 8 (.mv (.t 18))])))))))
 (.seq (.reg [ji 4 (.mv (.c (.int .i64 (-1))))])
 .ret))), [.tmp 4]⟩
theorem cF224 : cFn prog 224 = some F224 := by kernel_rfl
def F188 : FN := ⟨9, (.seq (.reg [ji 4 (.mv (.c (.bool false)))])
 (.seq (.reg [ji 5 (.mv (.t 0)), ji 6 (.mv (.t 1)), ji 7 (.call 224 [(.t 5), (.t 6)]), ji 8 (.bin .geq (.t 7) (ci 0)), ji 4 (.mv (.t 8))])
 .ret)), [.tmp 4]⟩
theorem cF188 : cFn prog 188 = some F188 := by kernel_rfl
variable {G : Gl}
def idxA {α : Type} (p : α → Bool) : List α → Nat → Int
 | [], _ => -1
 | c :: l, n => bif p c then (n : Int) else idxA p l (n + 1)
theorem idxA_any {α : Type} (p : α → Bool) : ∀ (l : List α) (n : Nat), decide (idxA p l n ≥ 0) = l.any p
 | [], n => rfl
 | c :: l, n => by
   have ih := idxA_any p l (n + 1)
   have e : idxA p (c :: l) n = bif p c then (n : Int) else idxA p l (n + 1) := rfl
   rw [List.any_cons, e]
   cases h : p c with
   | false => rw [cond_false, ih, Bool.false_or]
   | true => rw [cond_true, Bool.true_or]; simp
theorem indexForm_ok {f : Nat} {p : Frm → Bool} (hp : ∀ c : Frm, PF prog G f [.agg [.str c.1, .str c.2]] (.bool (p c))) (s : List Frm) (hs : s.length ≤ 4611686018427387904) :
  PF prog G 236 [.lst (frmsC s) s.length 2 none, .func (.func f) [] []] (.int .i64 (idxA p s 0)) := by
 intro H
 refine CALL.of cF236 (Nat.le_of_ble_eq_true rfl) ?_
 refine AC.seq (AC.reg ?_)
 refine go ?_
 refine RG.nilS (AC.seq (AC.seq (AC.reg ?_)))
 refine go ?_
 refine RG.nilS ?_
 refine AC.bloopH (α := Nat) (β := Unit) (fun n => s.length - n) (fun n => [(0, .lst (frmsC s) s.length 2 none), (1, .func (.func f) [] []), (7, .int .i64 s.length), (8, .int .i64 n)]) (fun n H' => H' = H ∧ n ≤ s.length ∧ idxA p s 0 = idxA p (s.drop n) n) (fun _ => []) (fun _ H' => H' = H ∧ idxA p s 0 = -1) ?_ ?_ 0 H ⟨rfl, Nat.zero_le _, rfl⟩ ⟨rfl, rfl, rfl, rfl, trivial⟩
 · intro _ He fr ⟨h1, h2⟩ hfr
   subst h1
   refine AC.to _ hfr (AC.seq (AC.reg ?_))
   refine go ?_
   exact RG.nilS (AC.ret (fin rfl ⟨by rw [h2]; rfl, rfl⟩))
 · intro n H' ⟨h1, h2, h3⟩ ih ex
   subst h1
   refine AC.seq (AC.reg ?_)
   refine go ?_
   cases e1 : decide ((n : Int) < s.length)
   · have e := of_decide_eq_false e1
     have : s.drop n = [] := List.drop_eq_nil_of_le (by omega)
     rw [this] at h3
     exact RG.nilS (AC.seq (AC.cond_f rfl (AC.exit (ex () _ _ ⟨rfl, h3⟩ trivial))))
   · have e := of_decide_eq_true e1
     have hn : n < s.length := by omega
     rw [List.drop_eq_getElem_cons hn] at h3
     have hrow := rowD (sz := 2) (fun f : Frm => [DV.str f.1, .str f.2]) (fun _ => rfl) s n _ (List.getElem?_eq_getElem hn)
     have hrow' : partD true 0 2 ((frmsC s).drop (((n : Nat) : Int).toNat * 2)) = some (.agg [.str s[n].1, .str s[n].2]) := partD_row (i := n) (sz := 2) hrow (by rw [frmsC_length]; omega)
     refine RG.nilS (AC.seq (AC.cond_t rfl (AC.skip (AC.seq (AC.block (AC.seq (AC.reg ?_)))))))
     refine go ?_
     refine RG.nilS (AC.seq (AC.reg ?_))
     refine go1 ?_
     refine go1 ?_
     refine go1 ?_
     refine RG.p .d (evP_iadr wh wh (by omega)) ?_
     refine RG.p .d (evP_ldc wh hrow') ?_
     refine RG.calvP .d rfl rfl (hp s[n]) ?_
     simp only [idxA] at h3
     cases c1 : p s[n]
     · rw [c1] at h3
       refine RG.nilS (AC.cond_f rfl (AC.skip (AC.reg ?_)))
       refine go ?_
       exact RG.nil (ih (n + 1) _ ⟨rfl, by omega, h3⟩ (by omega) _ ⟨rfl, rfl, rfl, rfl, trivial⟩)
     · rw [c1] at h3
       refine RG.nilS (AC.cond_t rfl (AC.seq (AC.reg ?_)))
       refine go ?_
       exact RG.nilS (AC.ret (fin rfl ⟨by rw [h3]; rfl, rfl⟩))
theorem containsForm_ok {f : Nat} {p : Frm → Bool} (hp : ∀ c : Frm, PF prog G f [.agg [.str c.1, .str c.2]] (.bool (p c))) (s : List Frm) (hs : s.length ≤ 4611686018427387904) :
  PF prog G 222 [.lst (frmsC s) s.length 2 none, .func (.func f) [] []] (.bool (s.any p)) := by
 intro H
 refine CALL.of cF222 (Nat.le_of_ble_eq_true rfl) ?_
 repeat (first | refine go1 ?_ | refine RG.zD ?_ | refine RG.callP .d rfl (indexForm_ok hp s hs) ?_ | refine nav ?_)
 exact AC.ret (fin rfl ⟨congrArg DV.bool (idxA_any p s 0), rfl⟩)
theorem indexInt_ok {f : Nat} {p : Int → Bool} (hp : ∀ c : Int, PF prog G f [.int .i64 c] (.bool (p c))) (s : List Int) (hs : s.length ≤ 4611686018427387904) :
  PF prog G 224 [.lst (s.map (DV.int .i64)) s.length 1 none, .func (.func f) [] []] (.int .i64 (idxA p s 0)) := by
 intro H
 refine CALL.of cF224 (Nat.le_of_ble_eq_true rfl) ?_
 refine AC.seq (AC.reg ?_)
 refine go ?_
 refine RG.nilS (AC.seq (AC.seq (AC.reg ?_)))
 refine go ?_
 refine RG.nilS ?_
 refine AC.bloopH (α := Nat) (β := Unit) (fun n => s.length - n) (fun n => [(0, .lst (s.map (DV.int .i64)) s.length 1 none), (1, .func (.func f) [] []), (7, .int .i64 s.length), (8, .int .i64 n)]) (fun n H' => H' = H ∧ n ≤ s.length ∧ idxA p s 0 = idxA p (s.drop n) n) (fun _ => []) (fun _ H' => H' = H ∧ idxA p s 0 = -1) ?_ ?_ 0 H ⟨rfl, Nat.zero_le _, rfl⟩ ⟨rfl, rfl, rfl, rfl, trivial⟩
 · intro _ He fr ⟨h1, h2⟩ hfr
   subst h1
   refine AC.to _ hfr (AC.seq (AC.reg ?_))
   refine go ?_
   exact RG.nilS (AC.ret (fin rfl ⟨by rw [h2]; rfl, rfl⟩))
 · intro n H' ⟨h1, h2, h3⟩ ih ex
   subst h1
   refine AC.seq (AC.reg ?_)
   refine go ?_
   cases e1 : decide ((n : Int) < s.length)
   · have e := of_decide_eq_false e1
     have : s.drop n = [] := List.drop_eq_nil_of_le (by omega)
     rw [this] at h3
     exact RG.nilS (AC.seq (AC.cond_f rfl (AC.exit (ex () _ _ ⟨rfl, h3⟩ trivial))))
   · have e := of_decide_eq_true e1
     have hn : n < s.length := by omega
     rw [List.drop_eq_getElem_cons hn] at h3
     refine RG.nilS (AC.seq (AC.cond_t rfl (AC.skip (AC.seq (AC.block (AC.seq (AC.reg ?_)))))))
     refine go ?_
     refine RG.nilS (AC.seq (AC.reg ?_))
     refine go1 ?_
     refine go1 ?_
     refine go1 ?_
     refine RG.p .d (evP_iadr wh wh (by omega)) ?_
     refine RG.p .d (evP_ldc wh (partD_one (d := DV.int .i64 s[n]) (by simp [hn]))) ?_
     refine RG.calvP .d rfl rfl (hp s[n]) ?_
     simp only [idxA] at h3
     cases c1 : p s[n]
     · rw [c1] at h3
       refine RG.nilS (AC.cond_f rfl (AC.skip (AC.reg ?_)))
       refine go ?_
       exact RG.nil (ih (n + 1) _ ⟨rfl, by omega, h3⟩ (by omega) _ ⟨rfl, rfl, rfl, rfl, trivial⟩)
     · rw [c1] at h3
       refine RG.nilS (AC.cond_t rfl (AC.seq (AC.reg ?_)))
       refine go ?_
       exact RG.nilS (AC.ret (fin rfl ⟨by rw [h3]; rfl, rfl⟩))
theorem containsInt_ok {f : Nat} {p : Int → Bool} (hp : ∀ c : Int, PF prog G f [.int .i64 c] (.bool (p c))) (s : List Int) (hs : s.length ≤ 4611686018427387904) :
  PF prog G 188 [.lst (s.map (DV.int .i64)) s.length 1 none, .func (.func f) [] []] (.bool (s.any p)) := by
 intro H
 refine CALL.of cF188 (Nat.le_of_ble_eq_true rfl) ?_
 repeat (first | refine go1 ?_ | refine RG.zD ?_ | refine RG.callP .d rfl (indexInt_ok hp s hs) ?_ | refine nav ?_)
 exact AC.ret (fin rfl ⟨congrArg DV.bool (idxA_any p s 0), rfl⟩)
theorem leaf_check {n s : List UInt8} (hn : isName n = true) (hl : s.length ≤ 60) : (checkF (.mk 2 n s false []) == 0) = shownF s := by
 cases h : shownF s
 · rw [beq_eq_false_iff_ne]
   intro hc
   have := (check_ok hc).1.1
   have := (check1_ok this).2.2.2.2.2.2 rfl
   rw [h] at this; cases this
 · have : checkF (leafD n s) = 0 := check_of ⟨leaf_ok hn (by omega) h, trivial⟩ (Nat.le_of_ble_eq_true rfl) (Nat.le_of_ble_eq_true rfl)
   rw [beq_iff_eq]; exact this
theorem wordD_ok (hG : GOK G) (s : List UInt8) : PF prog G 137 [.str s] (.bool (wordF s)) := by
 intro H
 refine CALL.of cF137 (Nat.le_of_ble_eq_true rfl) ?_
 refine au ?_
 cases h1 : s == []
 case true =>
  refine au ?_
  exact AC.ret (fin rfl ⟨by rw [wordF, h1]; rfl, rfl⟩)
 refine au ?_
 cases h2 : decide (((s.length : Nat) : Int) ≤ 60)
 · refine au ?_
   exact AC.ret (fin rfl ⟨by rw [wordF, h1, h2]; rfl, rfl⟩)
 · have hl := of_decide_eq_true h2
   have hlc := leaf_check (n := [77, 97, 110]) (s := s) rfl (by omega)
   refine go1 ?_
   refine RG.callP .d rfl (Leaf_ok _ _ _) ?_
   refine RG.callP .d rfl (Check_ok hG (.mk 2 [77, 97, 110] s false []) ⟨Nat.zero_le _, trivial⟩) ?_
   generalize checkF (.mk 2 [77, 97, 110] s false []) = cf at hlc ⊢
   refine au ?_
   exact AC.ret (fin rfl ⟨by rw [wordF, h1, h2]; exact congrArg DV.bool hlc, rfl⟩)
theorem maybeD_ok (hG : GOK G) (s : List UInt8) : PF prog G 136 [.str s] (.bool (maybeF s)) := by
 intro H
 refine CALL.of cF136 (Nat.le_of_ble_eq_true rfl) ?_
 refine au ?_
 cases h1 : s == []
 · repeat (first | refine go1 ?_ | refine RG.zD ?_ | refine RG.callP .d rfl (wordD_ok hG s) ?_ | refine nav ?_)
   exact AC.ret (fin rfl ⟨by rw [maybeF, h1]; rfl, rfl⟩)
 · refine au ?_
   exact AC.ret (fin rfl ⟨by rw [maybeF, h1]; rfl, rfl⟩)
theorem formBad_ok (hG : GOK G) (c : Frm) : PF prog G 223 [.agg [.str c.1, .str c.2]] (.bool (!(frmOk c))) := by
 intro H
 refine CALL.of cF223 (Nat.le_of_ble_eq_true rfl) ?_
 refine AC.seq (AC.reg ?_)
 refine RG.box .d rfl rfl fun b hb => ?_
 repeat (first | refine go1 ?_ | refine RG.zD ?_ | refine RG.callP .d rfl (wordD_ok hG c.1) ?_ | refine nav ?_)
 cases h1 : wordF c.1
 · refine au ?_
   exact AC.ret (finD (H' := H) rfl (SubH.fresh hb) ⟨by rw [frmOk, h1]; rfl, rfl⟩)
 · repeat (first | refine go1 ?_ | refine RG.zD ?_ | refine RG.callP .d rfl (wordD_ok hG c.2) ?_ | refine nav ?_)
   exact AC.ret (finD (H' := H) rfl (SubH.fresh hb) ⟨by rw [frmOk, h1]; rfl, rfl⟩)
theorem any_not {α : Type} (p : α → Bool) (l : List α) : (!(l.any fun x => !(p x))) = l.all p := by
 induction l with
 | nil => rfl
 | cons x l ih => rw [List.any_cons, List.all_cons, ← ih]; cases p x <;> simp
theorem ge1 (n : Nat) : decide (((n : Nat) : Int) ≥ 1) = decide (1 ≤ n) := by rw [decide_eq_decide]; omega
theorem leN (n k : Nat) : decide (((n : Nat) : Int) ≤ ((k : Nat) : Int)) = decide (n ≤ k) := by rw [decide_eq_decide]; omega
theorem formsD_ok (hG : GOK G) (l : List Frm) : PF prog G 187 [.lst (frmsC l) l.length 2 none] (.bool (formsF l)) := by
 intro H
 refine CALL.of cF187 (Nat.le_of_ble_eq_true rfl) ?_
 refine au ?_
 rw [ge1]
 cases h1 : decide (1 ≤ l.length)
 · refine au ?_
   exact AC.ret (fin rfl ⟨by rw [formsF, h1]; rfl, rfl⟩)
 refine au ?_
 rw [show decide (((l.length : Nat) : Int) ≤ 6) = decide (l.length ≤ 6) from leN _ 6]
 cases h2 : decide (l.length ≤ 6)
 · refine au ?_
   exact AC.ret (fin rfl ⟨by rw [formsF, h1, h2]; rfl, rfl⟩)
 · have hl := of_decide_eq_true h2
   repeat (first | refine go1 ?_ | refine RG.zD ?_ | refine RG.callP .d rfl (containsForm_ok (formBad_ok hG) l (by omega)) ?_ | refine nav ?_)
   exact AC.ret (fin rfl ⟨by rw [formsF, h1, h2, ← any_not]; rfl, rfl⟩)
theorem kindBad_ok (k : Int) : PF prog G 189 [.int .i64 k] (.bool (!(kindOk k))) := by
 intro H
 refine CALL.of cF189 (Nat.le_of_ble_eq_true rfl) ?_
 refine au ?_
 have e1 : decide (k < 1) = !(decide (1 ≤ k)) := by rw [Bool.eq_iff_iff]; simp
 have e2 : decide (k > 99) = !(decide (k ≤ 99)) := by rw [Bool.eq_iff_iff]; simp
 rw [e1]
 cases h1 : decide (1 ≤ k)
 · refine au ?_
   exact AC.ret (fin rfl ⟨by rw [kindOk, h1]; rfl, rfl⟩)
 · refine au ?_
   exact AC.ret (fin rfl ⟨by rw [kindOk, h1, e2]; rfl, rfl⟩)
theorem placeD_ok (hG : GOK G) (p : Plc) : PF prog G 135 [.agg (plcC p)] (.bool (placeF p)) := by
 intro H
 refine CALL.of cF135 (Nat.le_of_ble_eq_true rfl) ?_
 refine AC.seq (AC.reg ?_)
 refine RG.box (d := .agg (plcC p)) (ys := plcC p) .d rfl rfl fun b hb => ?_
 rw [plcC]
 have done : ∀ {fr : Fr} {q : Bool}, q = placeF p → fr 2 = .bool q → Fin F135.rs (fun d' H' => d' = .bool (placeF p) ∧ H' = H) (fun _ _ => False) .ret fr (H.upd b (some (.cells [.str p.ref, .str p.name, .int .i64 p.maxId, .lst (frmsC p.takes) p.takes.length 2 none, .lst (frmsC p.gives) p.gives.length 2 none, .lst (p.kinds.map (DV.int .i64)) p.kinds.length 1 none] 56))) := by
  intro fr q hq h2
  exact finD (H' := H) rfl (SubH.fresh hb) ⟨by show fr 2 = _; rw [h2, hq], rfl⟩
 repeat (first | refine go1 ?_ | refine RG.zD ?_ | refine RG.callP .d rfl (wordD_ok hG p.ref) ?_ | refine nav ?_)
 cases h1 : wordF p.ref
 case false =>
  refine au ?_
  exact AC.ret (done (by rw [placeF, h1]; rfl) rfl)
 repeat (first | refine go1 ?_ | refine RG.zD ?_ | refine RG.callP .d rfl (maybeD_ok hG p.name) ?_ | refine nav ?_)
 cases h2 : maybeF p.name
 case false =>
  refine au ?_
  exact AC.ret (done (by rw [placeF, h1, h2]; rfl) rfl)
 refine au ?_
 have e3 : decide (p.maxId ≥ 0) = decide (0 ≤ p.maxId) := rfl
 rw [e3]
 cases h3 : decide (0 ≤ p.maxId)
 case false =>
  refine au ?_
  exact AC.ret (done (by rw [placeF, h1, h2, h3]; rfl) rfl)
 refine au ?_
 cases h4 : decide (p.maxId ≤ 268435456)
 case false =>
  refine au ?_
  exact AC.ret (done (by rw [placeF, h1, h2, h3, h4]; rfl) rfl)
 repeat (first | refine go1 ?_ | refine RG.zD ?_ | refine RG.callP .d rfl (formsD_ok hG p.takes) ?_ | refine nav ?_)
 cases h5 : formsF p.takes
 case false =>
  refine au ?_
  exact AC.ret (done (by rw [placeF, h1, h2, h3, h4, h5]; rfl) rfl)
 repeat (first | refine go1 ?_ | refine RG.zD ?_ | refine RG.callP .d rfl (formsD_ok hG p.gives) ?_ | refine nav ?_)
 cases h6 : formsF p.gives
 case false =>
  refine au ?_
  exact AC.ret (done (by rw [placeF, h1, h2, h3, h4, h5, h6]; rfl) rfl)
 refine au ?_
 rw [ge1]
 cases h7 : decide (1 ≤ p.kinds.length)
 case false =>
  refine au ?_
  exact AC.ret (done (by rw [placeF, h1, h2, h3, h4, h5, h6, h7]; rfl) rfl)
 refine au ?_
 rw [show decide (((p.kinds.length : Nat) : Int) ≤ 8) = decide (p.kinds.length ≤ 8) from leN _ 8]
 cases h8 : decide (p.kinds.length ≤ 8)
 case false =>
  refine au ?_
  exact AC.ret (done (by rw [placeF, h1, h2, h3, h4, h5, h6, h7, h8]; rfl) rfl)
 have hl := of_decide_eq_true h8
 repeat (first | refine go1 ?_ | refine RG.zD ?_ | refine RG.callP .d rfl (containsInt_ok kindBad_ok p.kinds (by omega)) ?_ | refine nav ?_)
 exact AC.ret (done (q := !(p.kinds.any fun k => !(kindOk k))) (by rw [placeF, h1, h2, h3, h4, h5, h6, h7, h8, any_not]; rfl) rfl)
theorem ldDev (d : Dvc) : partD true 0 7 (dvcC d) = some (.agg (dvcC d)) := rfl
theorem checkDev_ok (hG : GOK G) (d : Dvc) : PF prog G 76 [.agg (dvcC d)] (.int .i64 (checkD d)) := by
 intro H
 refine CALL.of cF76 (Nat.le_of_ble_eq_true rfl) ?_
 refine AC.seq (AC.reg ?_)
 refine RG.box (d := .agg (dvcC d)) (ys := dvcC d) .d rfl rfl fun b hb => ?_
 rw [dvcC]
 generalize hHH : H.upd b (some (.cells [.str d.man, .str d.mod_, .str d.soft, .str d.id, .str d.type, .bool d.large, .lst (plcsC d.places) d.places.length 6 none] 28)) = HH
 have hHb : HH b = some (.cells [.str d.man, .str d.mod_, .str d.soft, .str d.id, .str d.type, .bool d.large, .lst (plcsC d.places) d.places.length 6 none] 28) := by rw [← hHH]; exact Hp.upd_same
 have done : ∀ {fr : Fr} {q : Int} {H2 : Hp}, q = checkD d → fr 2 = .int .i64 q → SubH HH H2 → Fin F76.rs (fun d' H' => d' = .int .i64 (checkD d) ∧ H' = H) (fun _ _ => False) .ret fr H2 := by
  intro fr q H2 hq h2 hs
  exact finD (H' := H) rfl ((SubH.fresh (o := some (.cells [.str d.man, .str d.mod_, .str d.soft, .str d.id, .str d.type, .bool d.large, .lst (plcsC d.places) d.places.length 6 none] 28)) hb).trans (hHH ▸ hs)) ⟨by show fr 2 = _; rw [h2, hq], rfl⟩
 have lt1 : decide (((d.places.length : Nat) : Int) < 1) = decide (d.places.length < 1) := by rw [decide_eq_decide]; omega
 have gt6 : decide (((d.places.length : Nat) : Int) > 6) = decide (6 < d.places.length) := by rw [decide_eq_decide]; omega
 refine au ?_
 rw [lt1]
 cases h1 : decide (d.places.length < 1)
 case true =>
  refine au ?_
  exact AC.ret (done (by rw [checkD, h1]; rfl) rfl (SubH.refl _))
 refine au ?_
 rw [gt6]
 cases h2 : decide (6 < d.places.length)
 case true =>
  refine au ?_
  exact AC.ret (done (by rw [checkD, h1, h2]; rfl) rfl (SubH.refl _))
 have hl := of_decide_eq_false h2
 have hC : checkD d = bif !(d.places.all placeF) then 3 else bif !(wordsD d) then 3 else 0 := by rw [checkD, h1, h2]; rfl
 refine al ?_
 refine AC.bloopH (α := Nat) (β := Unit) (fun n => d.places.length - n) (fun n => [(1, .ptr b 0), (16, .lst (plcsC d.places) d.places.length 6 none), (17, .int .i64 d.places.length), (18, .int .i64 n)])
  (fun n H' => H' = HH ∧ n ≤ d.places.length ∧ d.places.all placeF = (d.places.drop n).all placeF) (fun _ => [(1, .ptr b 0)]) (fun _ H' => H' = HH ∧ d.places.all placeF = true) ?_ ?_ 0 HH ⟨rfl, Nat.zero_le _, rfl⟩ ⟨rfl, rfl, rfl, rfl, trivial⟩
 · rintro _ He fr ⟨rfl, h3⟩ hfr
   rw [h3] at hC
   refine AC.to _ hfr ?_
   repeat (first | refine go1 ?_ | refine RG.zD ?_ | refine RG.callP .d rfl (maybeD_ok hG d.man) ?_ | refine nav ?_)
   cases g1 : maybeF d.man
   case false =>
    refine au ?_
    exact AC.ret (done (by rw [hC, wordsD, g1]; rfl) rfl (SubH.refl _))
   repeat (first | refine go1 ?_ | refine RG.zD ?_ | refine RG.callP .d rfl (maybeD_ok hG d.mod_) ?_ | refine nav ?_)
   cases g2 : maybeF d.mod_
   case false =>
    refine au ?_
    exact AC.ret (done (by rw [hC, wordsD, g1, g2]; rfl) rfl (SubH.refl _))
   repeat (first | refine go1 ?_ | refine RG.zD ?_ | refine RG.callP .d rfl (maybeD_ok hG d.soft) ?_ | refine nav ?_)
   cases g3 : maybeF d.soft
   case false =>
    refine au ?_
    exact AC.ret (done (by rw [hC, wordsD, g1, g2, g3]; rfl) rfl (SubH.refl _))
   repeat (first | refine go1 ?_ | refine RG.zD ?_ | refine RG.callP .d rfl (wordD_ok hG d.id) ?_ | refine nav ?_)
   cases g4 : wordF d.id
   case false =>
    refine au ?_
    exact AC.ret (done (by rw [hC, wordsD, g1, g2, g3, g4]; rfl) rfl (SubH.refl _))
   repeat (first | refine go1 ?_ | refine RG.zD ?_ | refine RG.callP .d rfl (wordD_ok hG d.type) ?_ | refine nav ?_)
   cases g5 : wordF d.type
   case false =>
    refine au ?_
    exact AC.ret (done (by rw [hC, wordsD, g1, g2, g3, g4, g5]; rfl) rfl (SubH.refl _))
   refine au ?_
   exact AC.ret (done (by rw [hC, wordsD, g1, g2, g3, g4, g5]; rfl) rfl (SubH.refl _))
 · rintro n H' ⟨rfl, h3, h4⟩ ih ex
   refine AC.seq (AC.reg ?_)
   refine go ?_
   cases e1 : decide ((n : Int) < d.places.length)
   · have e := of_decide_eq_false e1
     have : d.places.drop n = [] := List.drop_eq_nil_of_le (by omega)
     rw [this] at h4
     exact RG.nilS (AC.seq (AC.cond_f rfl (AC.exit (ex () _ _ ⟨rfl, h4⟩ ⟨rfl, trivial⟩))))
   · have e := of_decide_eq_true e1
     have hn : n < d.places.length := by omega
     rw [List.drop_eq_getElem_cons hn, List.all_cons] at h4
     have hrow := rowD (sz := 6) plcC (fun _ => rfl) d.places n _ (List.getElem?_eq_getElem hn)
     have hrow' : partD true 0 6 ((plcsC d.places).drop (((n : Nat) : Int).toNat * 6)) = some (.agg (plcC d.places[n])) := partD_row (i := n) (sz := 6) hrow (by rw [plcsC_length]; omega)
     refine RG.nilS (AC.seq (AC.cond_t rfl (AC.skip (AC.seq (AC.block (AC.seq (AC.reg ?_)))))))
     refine RG.p .d (evP_iadr wh wh (by omega)) ?_
     refine RG.p .d (evP_ldc wh hrow') ?_
     refine RG.alloc .d fun q hq => ?_
     generalize d.places[n] = pl at h4
     refine RG.sto (d := .agg (plcC pl)) (ys := plcC pl) (cs := [.str [], .str [], .int .i64 0, .nils, .nils, .nils]) (ty := 56) .d wh Hp.upd_same (by exact rfl) rfl rfl (by exact Nat.le_refl _) ?_
     rw [Hp.upd_upd]
     have hsp : spliceL 0 (plcC pl) [.str [], .str [], .int .i64 0, .nils, .nils, .nils] = plcC pl := rfl
     rw [hsp]
     refine RG.nilS (AC.seq (AC.reg ?_))
     refine RG.ld .d wh Hp.upd_same (d := .agg (plcC pl)) rfl ?_
     refine RG.callP .d rfl (placeD_ok hG pl) ?_
     refine go ?_
     cases c1 : placeF pl
     · rw [c1, Bool.false_and] at h4
       refine au ?_
       exact AC.ret (done (by rw [hC, h4]; rfl) rfl (SubH.fresh hq))
     · rw [c1, Bool.true_and] at h4
       refine RG.nilS (AC.cond_f rfl (AC.skip (AC.drop (SubH.fresh hq) (AC.reg ?_))))
       refine go ?_
       exact RG.nil (ih (n + 1) _ ⟨rfl, by omega, h4⟩ (by omega) _ ⟨rfl, rfl, rfl, rfl, trivial⟩)
open Go Go.Run Go.RowKit
open Go.Proofs.Tryz (prog)
def F162 : FN := ⟨28, (.seq (.reg [ji 4 (.mv (.t 0)), ji 5 (.len false (.t 4)), ji 6 (.bin .sub (.t 5) (ci 1)), ji 2 (.mv (ci 0)), ji 3 (.mv (.t 6))])
 (.block 0 (.loop (.seq (.seq (.reg [ji 7 (.mv (.t 2)), ji 8 (.mv (.t 3)), ji 9 (.bin .lss (.t 7) (.t 8))])
 (.cond (.t 9) .skip
 (.exit 0)))
 (.seq (.block 1 (.draw [ji 14 (.mv (.t 0)), ji 15 (.mv (.t 2)), ji 16 (.mv (.t 0)), ji 17 (.mv (.t 3)), ji 18 (.mv (.t 0)), ji 19 (.mv (.t 3)), ji 20 (.iadr 1 (.t 18) (.t 19)), ji 21 (.ld false 1 (.t 20)), ji 22 (.mv (.t 0)), ji 23 (.mv (.t 2)), ji 24 (.iadr 1 (.t 22) (.t 23)), ji 25 (.ld false 1 (.t 24)), ji 26 (.iadr 1 (.t 14) (.t 15)), jn (.st 1 (.t 26) (.t 21)), ji 27 (.iadr 1 (.t 16) (.t 17)), jn (.st 1 (.t 27) (.t 25))] [[], [], [], [], [], [], [4, 5], [6], [], [], [8, 9], [10], [0, 1, 0, 1, 4, 5, 6, 7, 11], [12, 7, 0, 1, 4, 5, 6, 7, 11], [2, 3, 0, 1, 2, 3, 4, 5, 6, 7, 8, 9, 10, 11, 12, 13], [14, 11, 13, 0, 1, 2, 3, 4, 5, 6, 7, 8, 9, 10, 11, 12, 13]]))
 (.reg [ji 10 (.mv (.t 2)), ji 11 (.bin .add (.t 10) (ci 1)), ji 12 (.mv (.t 3)), ji 13 (.bin .sub (.t 12) (ci 1)), ji 2 (.mv (.t 11)), ji 3 (.mv (.t 13))])))))), []⟩
theorem cF162 : cFn prog 162 = some F162 := by kernel_rfl
variable {G : Gl}
theorem splice_one {cs : List DV} {i : Nat} {d : DV} (h : i < cs.length) : spliceL i [d] cs = cs.set i d := by
 rw [spliceL, List.set_eq_take_append_cons_drop, if_pos h]
 simp
theorem evP_iadrW {fr : Fr} {H : Hp} {x y : X} {b off n cap sz : Nat} {k : IntKind} {i : Int} (hx : XV G fr x = .win b off n cap) (hy : XV G fr y = .int k i) (hr : 0 ≤ i ∧ i < n) : evP G fr H (.iadr sz x y) = some (.ptr b (off + i.toNat * sz)) := by
 show iadrD sz (XV G fr x) (XV G fr y) = _
 rw [hx, hy]
 simp only [iadrD, if_pos hr]
def revAt (l : List UInt8) (i k : Nat) : UInt8 := if k < i ∨ l.length ≤ k + i then l.getD (l.length - 1 - k) 0 else l.getD k 0
def revL (l : List UInt8) (i : Nat) : List DV := (List.range l.length).map fun k => B8 (revAt l i k)
theorem revL_length (l : List UInt8) (i : Nat) : (revL l i).length = l.length := by simp [revL]
theorem revL_zero (l : List UInt8) : revL l 0 = l.map B8 := by
 apply List.ext_getElem?
 intro k
 by_cases h : k < l.length
 · have hc : ¬ (k < 0 ∨ l.length ≤ k + 0) := by omega
   have e1 : (revL l 0)[k]? = some (B8 (revAt l 0 k)) := by simp [revL, h]
   have e2 : (l.map B8)[k]? = some (B8 (l.getD k 0)) := by simp [List.getD, h]
   rw [e1, e2, revAt, if_neg hc]
 · rw [List.getElem?_eq_none (by rw [revL_length]; omega), List.getElem?_eq_none (by rw [List.length_map]; omega)]
theorem revL_end (l : List UInt8) (i : Nat) (h : l.length ≤ 2 * i + 1) : revL l i = l.reverse.map B8 := by
 apply List.ext_getElem?
 intro k
 by_cases hk : k < l.length
 · have e1 : (revL l i)[k]? = some (B8 (revAt l i k)) := by simp [revL, hk]
   have e2 : (l.reverse.map B8)[k]? = some (B8 (l.getD (l.length - 1 - k) 0)) := by
    rw [List.getElem?_map, List.getElem?_reverse hk]
    have : l.length - 1 - k < l.length := by omega
    simp [List.getD, this]
   rw [e1, e2]
   unfold revAt
   split
   · rfl
   · rename_i hc
     have : l.length - 1 - k = k := by omega
     rw [this]
 · rw [List.getElem?_eq_none (by rw [revL_length]; omega), List.getElem?_eq_none (by rw [List.length_map, List.length_reverse]; omega)]
theorem revL_step (l : List UInt8) (rest : List DV) (i : Nat) (h : 2 * i + 1 < l.length) :
  (((revL l i ++ rest).set i (B8 (l.getD (l.length - 1 - i) 0))).set (l.length - 1 - i) (B8 (l.getD i 0))) = revL l (i + 1) ++ rest := by
 have hl := revL_length l i
 rw [List.set_append_left _ _ (by omega), List.set_append_left _ _ (by rw [List.length_set]; omega)]
 congr 1
 apply List.ext_getElem?
 intro k
 by_cases hk : k < l.length
 · have e2 : (revL l (i + 1))[k]? = some (B8 (revAt l (i + 1) k)) := by simp [revL, hk]
   have e1 : (revL l i)[k]? = some (B8 (revAt l i k)) := by simp [revL, hk]
   rw [e2, List.getElem?_set, List.getElem?_set]
   simp only [List.length_set, hl]
   by_cases c1 : l.length - 1 - i = k
   · rw [if_pos c1, if_pos (by omega)]
     unfold revAt
     rw [if_pos (by omega), show l.length - 1 - k = i by omega]
   · rw [if_neg c1]
     by_cases c2 : i = k
     · rw [if_pos c2, if_pos (by omega)]
       unfold revAt
       rw [if_pos (by omega), c2]
     · rw [if_neg c2, e1]
       unfold revAt
       by_cases c3 : k < i ∨ l.length ≤ k + i
       · rw [if_pos c3, if_pos (by omega)]
       · rw [if_neg c3, if_neg (by omega)]
 · rw [List.getElem?_eq_none (by simp [hl]; omega), List.getElem?_eq_none (by rw [revL_length]; omega)]
theorem revL_at (l : List UInt8) (rest : List DV) (i k : Nat) (hk : k < l.length) (h1 : i ≤ k) (h2 : k + i < l.length) : (revL l i ++ rest)[k]? = some (B8 (l.getD k 0)) := by
 rw [List.getElem?_append_left (by rw [revL_length]; exact hk)]
 have : ¬ (k < i ∨ l.length ≤ k + i) := by omega
 simp [revL, hk, revAt, this]
def revH (H : Hp) (g : Nat) (l : List UInt8) (i : Nat) (rest : List DV) (ty : TypeId) : Hp := H.upd g (some (.cells (revL l i ++ rest) ty))
theorem reverse_ok {H : Hp} {g : Nat} {l : List UInt8} {rest : List DV} {cap : Nat} {ty : TypeId} (hl : l.length ≤ 4611686018427387904) (hg : H g = some (.cells (l.map B8 ++ rest) ty)) :
  CALL prog G 162 [.win g 0 l.length cap] H (fun _ H' => H' = H.upd g (some (.cells (l.reverse.map B8 ++ rest) ty))) (fun _ _ => False) := by
 have h0 : H = revH H g l 0 rest ty := by rw [revH, revL_zero]; exact (Hp.upd_id hg).symm
 rw [h0]
 refine CALL.of cF162 (Nat.le_of_ble_eq_true rfl) ?_
 refine AC.seq (AC.reg ?_)
 refine go ?_
 refine RG.nilS ?_
 have hE : ∀ i, (revH H g l i rest ty).upd g (some (.cells (l.reverse.map B8 ++ rest) ty)) = H.upd g (some (.cells (l.reverse.map B8 ++ rest) ty)) := fun i => Hp.upd_upd
 rw [hE]
 refine AC.bloopH (α := Nat) (β := Unit) (fun i => l.length - i) (fun i => [(0, .win g 0 l.length cap), (2, .int .i64 i), (3, .int .i64 ((l.length : Int) - 1 - i))]) (fun i H' => H' = revH H g l i rest ty ∧ 2 * i ≤ l.length) (fun _ => []) (fun _ H' => H' = H.upd g (some (.cells (l.reverse.map B8 ++ rest) ty))) ?_ ?_ 0 _ ⟨rfl, by omega⟩ ⟨rfl, rfl, by simp [argFr, Fr.put, Fr.set], trivial⟩
 · intro _ He fr h _
   exact fin rfl h
 · rintro i H' ⟨rfl, h2⟩ ih ex
   refine AC.seq (AC.seq (AC.reg ?_))
   refine go ?_
   cases e1 : decide ((i : Int) < (l.length : Int) - 1 - i)
   · have e := of_decide_eq_false e1
     refine RG.nilS (AC.cond_f rfl (AC.exit (ex () _ _ ?_ trivial)))
     rw [revH, revL_end l i (by omega)]
   · have e := of_decide_eq_true e1
     have hj : ((l.length : Int) - 1 - i).toNat = l.length - 1 - i := by omega
     have hat : ∀ k, k < l.length → i ≤ k → k + i < l.length → partD false (0 + k * 1) 1 (revL l i ++ rest) = some (B8 (l.getD k 0)) := fun k a b c => by
      rw [Nat.zero_add, Nat.mul_one]; exact revL_at l rest i k a b c
     refine RG.nilS (AC.cond_t rfl (AC.skip (AC.seq (AC.block (AC.drawP [13, 15] rfl ?_)))))
     first|refine VP.z0 0 ?_|refine VP.z1 0 ?_|refine VP.z2 0 ?_|refine VP.z3 0 ?_|refine VP.z4 0 ?_|refine VP.z5 0 ?_|refine VP.z6 0 ?_|refine VP.z7 0 ?_|refine VP.z8 0 ?_
     first|refine VP.z0 1 ?_|refine VP.z1 1 ?_|refine VP.z2 1 ?_|refine VP.z3 1 ?_|refine VP.z4 1 ?_|refine VP.z5 1 ?_|refine VP.z6 1 ?_|refine VP.z7 1 ?_|refine VP.z8 1 ?_
     first|refine VP.z0 2 ?_|refine VP.z1 2 ?_|refine VP.z2 2 ?_|refine VP.z3 2 ?_|refine VP.z4 2 ?_|refine VP.z5 2 ?_|refine VP.z6 2 ?_|refine VP.z7 2 ?_|refine VP.z8 2 ?_
     first|refine VP.z0 3 ?_|refine VP.z1 3 ?_|refine VP.z2 3 ?_|refine VP.z3 3 ?_|refine VP.z4 3 ?_|refine VP.z5 3 ?_|refine VP.z6 3 ?_|refine VP.z7 3 ?_|refine VP.z8 3 ?_
     first|refine VP.z0 4 ?_|refine VP.z1 4 ?_|refine VP.z2 4 ?_|refine VP.z3 4 ?_|refine VP.z4 4 ?_|refine VP.z5 4 ?_|refine VP.z6 4 ?_|refine VP.z7 4 ?_|refine VP.z8 4 ?_
     first|refine VP.z0 5 ?_|refine VP.z1 5 ?_|refine VP.z2 5 ?_|refine VP.z3 5 ?_|refine VP.z4 5 ?_|refine VP.z5 5 ?_|refine VP.z6 5 ?_|refine VP.z7 5 ?_|refine VP.z8 5 ?_
     refine VP.v 6 rfl (evP_iadrW (i := (l.length : Int) - 1 - i) rfl rfl (by omega)) ?_
     rw [hj]
     refine VP.v 7 rfl (evP_ld rfl Hp.upd_same (hat (l.length - 1 - i) (by omega) (by omega) (by omega))) ?_
     first|refine VP.z0 8 ?_|refine VP.z1 8 ?_|refine VP.z2 8 ?_|refine VP.z3 8 ?_|refine VP.z4 8 ?_|refine VP.z5 8 ?_|refine VP.z6 8 ?_|refine VP.z7 8 ?_|refine VP.z8 8 ?_
     first|refine VP.z0 9 ?_|refine VP.z1 9 ?_|refine VP.z2 9 ?_|refine VP.z3 9 ?_|refine VP.z4 9 ?_|refine VP.z5 9 ?_|refine VP.z6 9 ?_|refine VP.z7 9 ?_|refine VP.z8 9 ?_
     refine VP.v 10 rfl (evP_iadrW (i := (i : Nat)) rfl rfl (by omega)) ?_
     rw [Int.toNat_natCast]
     refine VP.v 11 rfl (evP_ld rfl Hp.upd_same (hat i (by omega) (by omega) (by omega))) ?_
     refine VP.v 12 rfl (evP_iadrW (i := (i : Nat)) rfl rfl (by omega)) ?_
     rw [Int.toNat_natCast]
     refine VP.pe 13 rfl rfl (EF.sto (d := B8 (l.getD (l.length - 1 - i) 0)) (cs := revL l i ++ rest) (ty := ty) trivial rfl Hp.upd_same rfl rfl rfl (by rw [List.length_append, revL_length]; omega)) (fun _ _ _ h => h.elim) (fun d H2 ⟨f1, f2⟩ => ⟨?_, ?_⟩)
     · refine stabP_cons rfl (StabP.of (QV.evP trivial (evP_iadrW (i := (i : Nat)) rfl rfl (by omega))) rfl) ?_
       exact (by (repeat (refine stabP_cons rfl (by first | exact StabP.of (QV.evP trivial rfl) rfl | exact StabP.of (QV.evP trivial (evP_ld rfl hbb rfl)) rfl | exact StabP.of (QV.bsl trivial rfl) rfl) ?_)); exact stabP_nil)
     · subst f1; subst f2
       refine VP.v 14 rfl (evP_iadrW (i := (l.length : Int) - 1 - i) rfl rfl (by omega)) ?_
       rw [hj]
       refine VP.pe 15 rfl rfl (EF.sto (d := B8 (l.getD i 0)) trivial rfl Hp.upd_same rfl rfl rfl (by
        rw [Nat.zero_add, Nat.mul_one, splice_one (by rw [List.length_append, revL_length]; omega), List.length_set, List.length_append, revL_length]; omega)) (fun _ _ _ h => h.elim) (fun d H2 ⟨f1, f2⟩ => ⟨?_, ?_⟩)
       · exact stabP_nil
       · subst f1; subst f2
         refine VP.pd (AC.reg ?_)
         refine go ?_
         have hH : ((revH H g l i rest ty).upd g (some (.cells (spliceL (0 + i * 1) [B8 (l.getD (l.length - 1 - i) 0)] (revL l i ++ rest)) ty))).upd g (some (.cells (spliceL (0 + (l.length - 1 - i) * 1) [B8 (l.getD i 0)] (spliceL (0 + i * 1) [B8 (l.getD (l.length - 1 - i) 0)] (revL l i ++ rest))) ty)) = revH H g l (i + 1) rest ty := by
          rw [Hp.upd_upd, revH, Hp.upd_upd, revH]
          rw [Nat.zero_add, Nat.mul_one, Nat.zero_add, Nat.mul_one, splice_one (cs := revL l i ++ rest) (i := i) (by rw [List.length_append, revL_length]; omega), splice_one (by rw [List.length_set, List.length_append, revL_length]; omega), revL_step l rest i (by omega)]
         refine RG.nil ?_
         rw [hH]
         exact ih (i + 1) _ ⟨rfl, by omega⟩ (by omega) _ ⟨rfl, rfl, by simp [Fr.put, Fr.set, frOf]; omega, trivial⟩
open Go Go.Run Go.RowKit
open Go.Proofs.Tryz (prog)
def F140 : FN := ⟨14, (.seq (.reg [ji 2 (.mv (.c (.str [])))])
 (.seq (.reg [ji 3 (.alloc [.nils] 65)])
 (.seq (.seq (.reg [ji 5 (.mv (.t 0)), ji 6 (.call 190 [(.t 5)])])
 (.block 0 (.rng (.t 6) [7] (.reg [ji 4 (.mv (.t 7))])
 (.block 1 (.reg [ji 8 (.ld false 1 (.t 3)), ji 9 (.mv (.t 4)), ji 10 (.bsl 5 1 1 [(.int .u8 0)] [(0, 1, (.t 9))]), ji 11 (.app 5 1 1 (.t 8) (.t 10)), jn (.st 1 (.t 3) (.t 11))])))))
 (.seq (.reg [ji 12 (.ld false 1 (.t 3)), ji 13 (.b2s (.t 12)), ji 2 (.mv (.t 13))])
 .ret)))), [.tmp 2]⟩
theorem cF140 : cFn prog 140 = some F140 := by kernel_rfl
def F190 : FN := ⟨29, (.seq (.reg [ji 2 (.mv (.c .nilfn))])
 (.seq (.reg [ji 3 (.alloc [.nils] 65)])
 (.seq (.seq (.reg [ji 5 (.mv (.t 0)), ji 4 (.mv (.t 5))])
 (.block 0 (.loop (.seq (.block 1 (.seq (.draw [ji 8 (.ld false 1 (.t 3)), ji 9 (.mv (.t 4)), ji 10 (.bin .rem (.t 9) (ci 10)), ji 11 (.mv (.t 4)), ji 12 (.bin .rem (.t 11) (ci 10)), ji 13 (.un .neg (.t 12)), ji 14 (.mx (.t 10) (.t 13)), ji 15 (.idx (.c (.str [48, 49, 50, 51, 52, 53, 54, 55, 56, 57, 65, 66, 67, 68, 69, 70])) (.t 14)), ji 16 (.bsl 5 1 1 [(.int .u8 0)] [(0, 1, (.t 15))]), ji 17 (.app 5 1 1 (.t 8) (.t 16)), jn (.st 1 (.t 3) (.t 17))] [[], [], [1], [], [3], [4], [2, 5], [6], [7], [0, 8], [9, 9, 0, 1, 2, 3, 4, 5, 6, 7, 8, 9]])
 (.seq (.reg [ji 18 (.mv (.t 4)), ji 19 (.bin .quo (.t 18) (ci 10)), ji 20 (.bin .eql (.t 19) (ci 0))])
 (.cond (.t 20) (.exit 0)
 .skip))))
 (.reg [ji 6 (.mv (.t 4)), ji 7 (.bin .quo (.t 6) (ci 10)), ji 4 (.mv (.t 7))])))))
 (.seq (.seq (.reg [ji 21 (.mv (.t 0)), ji 22 (.bin .lss (.t 21) (ci 0))])
 (.cond (.t 22) (.reg [ji 23 (.ld false 1 (.t 3)), ji 24 (.bsl 5 1 1 [(.int .u8 0)] [(0, 1, (.c (.int .u8 45)))]), ji 25 (.app 5 1 1 (.t 23) (.t 24)), jn (.st 1 (.t 3) (.t 25))])
 .skip))
 (.seq (.reg [ji 26 (.ld false 1 (.t 3)), ji 27 (.call 162 [(.t 26)])])
 (.seq (.reg [ji 28 (.mkfn (.func 225) [] [(.t 3)]), ji 2 (.mv (.t 28))])
 .ret)))))), [.tmp 2]⟩
theorem cF190 : cFn prog 190 = some F190 := by kernel_rfl
def F225 : FN := ⟨16, (.seq (.reg [ji 5 (.ld false 1 (.t 1)), ji 6 (.len false (.t 5)), ji 7 (.mv (ci 0))])
 (.block 0 (.loop (.seq (.reg [ji 8 (.bin .lss (.t 7) (.t 6))])
 (.seq (.cond (.t 8) .skip
 (.exit 0))
 (.seq (.block 1 (.seq (.reg [ji 9 (.iadr 1 (.t 5) (.t 7)), ji 10 (.ld false 1 (.t 9)), ji 4 (.mv (.t 10))])
 (.seq (.reg [ji 11 (.mv (.t 0)), ji 12 (.mv (.t 4)), ji 13 (.calv (.t 11) [(.t 12)]), ji 14 (.un .not (.t 13))])
 (.cond (.t 14) .ret
 .skip))))
 (.reg [ji 15 (.bin .add (.t 7) (ci 1)), ji 7 (.mv (.t 15))]))))))), []⟩
theorem cF225 : cFn prog 225 = some F225 := by kernel_rfl
variable {G : Gl}
def digB (b : Nat) (n : Int) : List (Nat × DO) := [(b, .cells [.lst ((digF n).map B8) (digF n).length 1 none] 65)]
def digR : Nat → Nat → List UInt8
 | 0, _ => []
 | f + 1, n => UInt8.ofNat (48 + n % 10) :: (bif n / 10 == 0 then [] else digR f (n / 10))
theorem digR_rev : ∀ (f n : Nat), (digR f n).reverse = digL f n
 | 0, n => rfl
 | f + 1, n => by
   rw [digR, digL, List.reverse_cons]
   cases n / 10 == 0
   · rw [cond_false, cond_false, digR_rev f (n / 10)]
   · rfl
theorem digits_at (k : Nat) (h : k < 10) : ([48, 49, 50, 51, 52, 53, 54, 55, 56, 57, 65, 66, 67, 68, 69, 70] : List UInt8)[k]? = some (UInt8.ofNat (48 + k)) := by
 match k, h with
 | 0, _ => rfl | 1, _ => rfl | 2, _ => rfl | 3, _ => rfl | 4, _ => rfl | 5, _ => rfl | 6, _ => rfl | 7, _ => rfl | 8, _ => rfl | 9, _ => rfl
 | k + 10, h => omega
theorem evP_neg {fr : Fr} {H : Hp} {x : X} {a : Int} (hx : XV G fr x = .int .i64 a) (hr : -9223372036854775807 ≤ a ∧ a ≤ 9223372036854775807) : evP G fr H (.un .neg x) = some (.int .i64 (-a)) := by
 show unD .neg (XV G fr x) = _
 rw [hx]
 show some (DV.int .i64 (IntKind.wrap .i64 (0 - a))) = _
 rw [IntWalk.i64_in _ (by omega)]; congr 2; omega
theorem evP_mxL {fr : Fr} {H : Hp} {x y : X} {k k' : IntKind} {a b : Int} (hx : XV G fr x = .int k a) (hy : XV G fr y = .int k' b) (h : b ≤ a) : evP G fr H (.mx x y) = some (.int k a) := by
 simp only [evP, hx, hy]
 rw [if_neg (by omega)]
theorem Digits_ok (k : Nat) (hk : k < 10 ^ 18) (H : Hp) : CALL prog G 190 [.int .i64 k] H
  (fun r H' => ∃ b, r = .func (.func 225) [] [.ptr b 0] ∧ H b = none ∧ H' = addB (digB b k) H) (fun _ _ => False) := by
 refine CALL.of cF190 (Nat.le_of_ble_eq_true rfl) ?_
 refine au ?_
 refine RG.alloc .d fun b hb => ?_
 refine al ?_
 generalize hH0 : H.upd b (some (.cells [.nils] 65)) = H0
 have hnil : GW 5 1 (H.upd b (some (.cells [.nils] 65))) [] 0 .nils H0 := by rw [hH0]; exact GW.nil
 have hneg : decide ((k : Int) < 0) = false := by simp
 have hdF : digF (k : Nat) = digL 20 k := by rw [digF, hneg, cond_false, List.nil_append, Int.natAbs_natCast]
 refine AC.bloopH (α := Nat × Nat × List UInt8) (β := Unit) (fun a => a.2.1) (fun a => [(0, .int .i64 k), (3, .ptr b 0), (4, .int .i64 (a.2.1 : Nat))])
  (fun a H' => (∃ v, GW 5 1 (H.upd b (some (.cells [v] 65))) (a.2.2.map B8) a.2.2.length v H') ∧ a.2.1 < 10 ^ 18 ∧ 0 < a.1 ∧ a.2.1 < 10 ^ a.1 ∧ digR 20 k = a.2.2 ++ digR a.1 a.2.1 ∧ a.2.2.length + a.1 = 20 ∧ (a.2.2 ≠ [] → 0 < a.2.1)) (fun _ => [(0, .int .i64 k), (3, .ptr b 0)])
  (fun _ H' => ∃ v, GW 5 1 (H.upd b (some (.cells [v] 65))) ((digR 20 k).map B8) (digR 20 k).length v H') ?_ ?_ (20, k, []) _ ⟨⟨.nils, hnil⟩, hk, Nat.succ_pos 19, by dsimp only; omega, rfl, rfl, fun h => absurd rfl h⟩ ⟨rfl, rfl, rfl, trivial⟩
 · rintro _ He fr ⟨v, hv⟩ hfr
   refine AC.to _ hfr ?_
   refine au ?_
   rw [hneg]
   refine au ?_
   have hqb : He b = some (.cells [v] 65) := hv.look Hp.upd_same
   refine RG.ld .d wh hqb (d := v) rfl ?_
   rcases hv with ⟨h0, h1, _, _⟩ | ⟨g, cap, rest, hg, rfl, h3, h4, rfl⟩
   · have : (digR 20 k).length = 0 := h0
     rw [digR] at this; simp at this
   · have hgb : g ≠ b := fun e => by rw [e, Hp.upd_same] at hg; cases hg
     refine RG.call .d rfl (reverse_ok (l := digR 20 k) (rest := rest) (by have := digL_len 20 k; rw [← digR_rev, List.length_reverse] at this; omega) Hp.upd_same) (fun d H2 hH2 => ?_) (fun _ _ h => h.elim)
     subst hH2
     rw [digR_rev, Hp.upd_upd]
     refine au ?_
     rw [Hp.upd_ne hgb] at hg
     have hlen : (digR 20 k).length = (digL 20 k).length := by rw [← digR_rev, List.length_reverse]
     refine AC.ret ⟨[.func (.func 225) [] [.ptr b 0]], .func (.func 225) [] [.ptr b 0], _, rfl, ?_, ⟨b, rfl, hb, rfl⟩⟩
     have hfz := Cv.freeze (H := (H.upd b (some (.cells [.win g 0 (digR 20 k).length cap] 65))).upd g (some (.cells ((digL 20 k).map B8 ++ rest) 5))) (be := b) (g := g) (n := (digR 20 k).length) (cap := cap) (sz := 1) (k := 0) (cs := [.win g 0 (digR 20 k).length cap]) (ls := (digL 20 k).map B8) (rest := rest) (d := .func (.func 225) [] [.ptr b 0])
      (by rw [Hp.upd_ne (Ne.symm hgb)]; exact Hp.upd_same) rfl Hp.upd_same (by rw [List.length_map, Nat.mul_one, hlen]) hgb
     rw [Hp.upd_upd, Hp.upd_id (show (H.upd b (some (.cells [.win g 0 (digR 20 k).length cap] 65))) g = none by rw [Hp.upd_ne hgb]; exact hg), Hp.upd_upd] at hfz
     rw [digB, hdF, ← hlen]
     exact hfz
 · rintro ⟨f, n, done⟩ H' ⟨⟨v, hv⟩, h1, h2, h3, h4, h5, h6⟩ ih ex
   dsimp only at hv h1 h2 h3 h4 h5 h6 ih ⊢
   obtain ⟨f, rfl⟩ : ∃ f', f = f' + 1 := ⟨f - 1, by omega⟩
   have hqb : H' b = some (.cells [v] 65) := hv.look Hp.upd_same
   have hm : n % 10 < 10 := Nat.mod_lt _ (by decide)
   have hrem : ((n : Nat) : Int).tmod 10 = ((n % 10 : Nat) : Int) := rfl
   refine AC.seq (AC.block (AC.seq (AC.drawP [9, 10] rfl ?_)))
   refine VP.v 0 rfl (evP_ld rfl hqb rfl) ?_
   first|refine VP.z0 1 ?_|refine VP.z1 1 ?_|refine VP.z2 1 ?_|refine VP.z3 1 ?_|refine VP.z4 1 ?_|refine VP.z5 1 ?_|refine VP.z6 1 ?_|refine VP.z7 1 ?_|refine VP.z8 1 ?_
   refine VP.v (d := .int .i64 ((n % 10 : Nat) : Int)) 2 rfl rfl ?_
   first|refine VP.z0 3 ?_|refine VP.z1 3 ?_|refine VP.z2 3 ?_|refine VP.z3 3 ?_|refine VP.z4 3 ?_|refine VP.z5 3 ?_|refine VP.z6 3 ?_|refine VP.z7 3 ?_|refine VP.z8 3 ?_
   refine VP.v (d := .int .i64 ((n % 10 : Nat) : Int)) 4 rfl rfl ?_
   refine VP.v 5 rfl (evP_neg (a := ((n % 10 : Nat) : Int)) rfl (by omega)) ?_
   refine VP.v 6 rfl (evP_mxL (a := ((n % 10 : Nat) : Int)) (b := -((n % 10 : Nat) : Int)) rfl rfl (by omega)) ?_
   refine VP.v 7 rfl (evP_at rfl rfl (by omega) (by rw [Int.toNat_natCast]; exact digits_at _ hm)) ?_
   refine VP.z8 8 ?_
   refine VP.pe 9 rfl rfl (EF.appw (ys := [B8 (UInt8.ofNat (48 + n % 10))]) (m := 1) trivial hv rfl rfl rfl (by omega) (by decide)) (fun _ _ _ h => h.elim) (fun v' H2 hv2 => ⟨?_, ?_⟩)
   · refine stabP_cons rfl (StabP.of (QV.evP trivial (evP_at rfl rfl (by omega) (by rw [Int.toNat_natCast]; exact digits_at _ hm))) rfl) ?_
     refine stabP_cons rfl (StabP.of (QV.evP trivial (evP_mxL (a := ((n % 10 : Nat) : Int)) (b := -((n % 10 : Nat) : Int)) rfl rfl (by omega))) rfl) ?_
     refine stabP_cons rfl (StabP.of (QV.evP trivial (evP_neg (a := ((n % 10 : Nat) : Int)) rfl (by omega))) rfl) ?_
     exact (by (repeat (refine stabP_cons rfl (by first | exact StabP.of (QV.evP trivial rfl) rfl | exact StabP.of (QV.evP trivial (evP_ld rfl hbb rfl)) rfl | exact StabP.of (QV.bsl trivial rfl) rfl) ?_)); exact stabP_nil)
   have hq2 : H2 b = some (.cells [v] 65) := hv2.look Hp.upd_same
   refine VP.pe 10 rfl rfl (EF.sto1 (d := v') trivial rfl hq2 rfl hv2.cells) (fun _ _ _ h => h.elim) (fun d H3 ⟨f1, f2⟩ => ⟨stabP_nil, ?_⟩)
   subst f1; subst f2
   have hv3 := hv2.set (k := b) (o' := .cells [v'] 65) Hp.upd_same
   rw [Hp.upd_upd] at hv3
   have hstep : digR (f + 1) n = UInt8.ofNat (48 + n % 10) :: (bif n / 10 == 0 then [] else digR f (n / 10)) := by rw [digR]
   refine VP.pd (AC.seq (AC.reg ?_))
   refine go1 ?_
   refine RG.p (d := .int .i64 ((n / 10 : Nat) : Int)) .d (by
    show some (DV.int .i64 (IntKind.wrap .i64 ((n : Int).tdiv 10))) = _
    rw [show (n : Int).tdiv 10 = ((n / 10 : Nat) : Int) from rfl, IntWalk.i64_in _ (by omega)]) ?_
   refine RG.p (d := .bool (n / 10 == 0)) .d (by
    show some (DV.bool (((n / 10 : Nat) : Int) == 0)) = _
    congr 2
    rw [Bool.eq_iff_iff]; simp only [beq_iff_eq]; omega) ?_
   rw [← List.map_singleton (f := B8), ← List.map_append] at hv3
   cases c1 : n / 10 == 0
   · rw [c1, cond_false] at hstep
     have hne : n / 10 ≠ 0 := by simpa using c1
     refine RG.nilS (AC.cond_f rfl (AC.skip (AC.reg ?_)))
     refine go1 ?_
     refine RG.p (d := .int .i64 ((n / 10 : Nat) : Int)) .d (by
      show some (DV.int .i64 (IntKind.wrap .i64 ((n : Int).tdiv 10))) = _
      rw [show (n : Int).tdiv 10 = ((n / 10 : Nat) : Int) from rfl, IntWalk.i64_in _ (by omega)]) ?_
     refine go ?_
     have hf : 0 < f := by
      cases f with
      | zero => simp at h3; omega
      | succ f => omega
     refine RG.nil (ih (f, n / 10, done ++ [UInt8.ofNat (48 + n % 10)]) _ ⟨⟨v', ?_⟩, by dsimp only; omega, hf, ?_, ?_, ?_, fun _ => by dsimp only; omega⟩ (by dsimp only; omega) _ ⟨rfl, rfl, rfl, trivial⟩)
     · dsimp only
       rw [List.length_append]; exact hv3
     · dsimp only
       rw [Nat.pow_succ] at h3; omega
     · dsimp only
       rw [h4, hstep, List.append_assoc]; rfl
     · dsimp only
       rw [List.length_append, List.length_singleton]; omega
   · rw [c1, cond_true] at hstep
     refine RG.nilS (AC.cond_t rfl (AC.exit (ex () _ _ ⟨v', ?_⟩ ⟨rfl, rfl, trivial⟩)))
     rw [h4, hstep, List.length_append]
     exact hv3
open Go Go.Run Go.RowKit
open Go.Proofs.Tryz (prog)
variable {G : Gl}
theorem runG_append {σ α : Type} (step : σ → α → σ × Bool) : ∀ (a b : List α) (s : σ), runG step s (a ++ b) = bif (runG step s a).2 then runG step (runG step s a).1 b else ((runG step s a).1, false)
 | [], b, s => rfl
 | x :: a, b, s => by
   rw [List.cons_append, runG, runG]
   cases e : (step s x).2
   · rfl
   · rw [cond_true, cond_true]; exact runG_append step a b _
theorem digB_at {b : Nat} {n : Int} {A : Hp} : addB (digB b n) A b = some (.cells [.lst ((digF n).map B8) (digF n).length 1 none] 65) := Hp.upd_same
theorem Digits1_ok {b : Nat} {n : Int} (hl : (digF n).length ≤ 1000) : ITER prog G 225 [] [.ptr b 0] (fun c => [B8 c]) (digF n) (digB b n) := by
 intro σ yv step R J E s0 A0 hy hyv hR hJ hB
 refine CALL.of cF225 (Nat.le_of_ble_eq_true rfl) ?_
 refine AC.seq (AC.reg ?_)
 refine RG.ld .d rfl digB_at rfl ?_
 refine al ?_
 generalize hl0 : digF n = l at hl hR
 refine AC.bloopH (α := Nat × σ) (β := Unit) (fun a => l.length - a.1) (fun a => [(0, yv), (5, .lst (l.map B8) l.length 1 none), (6, .int .i64 l.length), (7, .int .i64 a.1)])
  (fun a H' => ∃ A, J a.2 A ∧ freeB (digB b n) A ∧ H' = addB (digB b n) A ∧ a.1 ≤ l.length ∧ runG step s0 l = runG step a.2 (l.drop a.1) ∧ okR R step a.2 (l.drop a.1)) (fun _ => [])
  (fun _ H' => ∃ A', ((runG step s0 l).2 = true → J (runG step s0 l).1 A') ∧ ((runG step s0 l).2 = false → E (runG step s0 l).1 A') ∧ freeB (digB b n) A' ∧ H' = addB (digB b n) A') ?_ ?_ (0, s0) _ ⟨A0, hJ, hB, rfl, Nat.zero_le _, rfl, hR⟩ ⟨rfl, rfl, rfl, rfl, trivial⟩
 · intro _ He fr h _
   exact fin rfl h
 · rintro ⟨i, s⟩ H' ⟨A, h1, h2, rfl, h4, h5, h6⟩ ih ex
   dsimp only at h1 h4 h5 h6 ih ⊢
   refine AC.seq (AC.reg ?_)
   refine go ?_
   cases e1 : decide ((i : Int) < l.length)
   · have e := of_decide_eq_false e1
     have hd : l.drop i = [] := List.drop_eq_nil_of_le (by omega)
     rw [hd] at h5
     have h7 : runG step s0 l = (s, true) := h5
     exact RG.nilS (AC.seq (AC.cond_f rfl (AC.exit (ex () _ _ ⟨A, by rw [h7]; exact fun _ => h1, by rw [h7]; exact fun h => (by cases h), h2, rfl⟩ trivial))))
   · have e := of_decide_eq_true e1
     have hi : i < l.length := by omega
     rw [List.drop_eq_getElem_cons hi] at h6
     rw [List.drop_eq_getElem_cons hi, runG] at h5
     have hc := CALV.frameB h2 (hy s l[i] A h6.1 h1)
     refine RG.nilS (AC.seq (AC.cond_t rfl (AC.skip (AC.seq (AC.block (AC.seq (AC.reg ?_)))))))
     refine RG.p .d (evP_iadr wh wh (by omega)) ?_
     refine RG.p .d (evP_ldc wh (partD_one (d := B8 l[i]) (by simp [hi]))) ?_
     refine au ?_
     refine RG.calV .d rfl rfl hc (fun r H' ⟨A', ⟨k1, k2, k3⟩, k4, k5⟩ => ?_) (fun r H' ⟨_, k, _⟩ => k.elim)
     subst k1; subst k5
     refine go ?_
     cases e2 : (step s l[i]).2
     · rw [e2, cond_false] at h5
       refine au ?_
       refine AC.ret (fin rfl ⟨A', by rw [h5]; exact fun h => (by cases h), by rw [h5]; exact fun _ => k3 e2, k4, rfl⟩)
     · rw [e2, cond_true] at h5
       refine au ?_
       exact ih (i + 1, (step s l[i]).1) _ ⟨A', k2 e2, k4, rfl, by dsimp only; omega, h5, h6.2 e2⟩ (by dsimp only; omega) _ ⟨rfl, rfl, rfl, rfl, trivial⟩
theorem b2s_GR {ty : TypeId} {H H' : Hp} {s : List UInt8} {n : Nat} {v : DV} {x : X} {r dst : Option Nat} {N : Nat} {l : List Ins} {Q : EX → Fr → Hp → Prop} {fr : Fr} (h : GR ty 1 H (s.map B8) n v H') (hn : n = s.length) (hx : XV G fr x = v) {HH : Hp}
  (k : RG prog G r N l Q (fr.put dst (.str s)) HH) : RG prog G r N (⟨dst, none, .b2s x⟩ :: l) Q fr HH := by
 subst hn
 rcases h with ⟨h0, h1, rfl, _⟩ | ⟨b, _, rfl, _⟩
 · have : s = [] := by simpa using h1
   subst this
   exact RG.st (ST.b2s_nil hx k)
 · exact RG.st (ST.b2s hx k)
def putS (s : List UInt8) (c : UInt8) : List UInt8 × Bool := (s ++ [c], true)
theorem runG_put : ∀ (l s : List UInt8), runG putS s l = (s ++ l, true)
 | [], s => by rw [runG, List.append_nil]
 | c :: l, s => by
   rw [runG]
   show runG putS (s ++ [c]) l = _
   rw [runG_put l, List.append_assoc]; rfl
theorem Text_ok (k : Nat) (hk : k < 10 ^ 18) : PF prog G 140 [.int .i64 k] (.str (digF k)) := by
 intro H
 have hlen : (digF (k : Nat)).length ≤ 20 := by
  have hneg : decide ((k : Int) < 0) = false := by simp
  rw [digF, hneg, cond_false, List.nil_append]; exact digL_len _ _
 refine CALL.of cF140 (Nat.le_of_ble_eq_true rfl) ?_
 refine au ?_
 refine RG.alloc .d fun q hq => ?_
 refine al ?_
 refine RG.call .d rfl (Digits_ok k hk _) (fun r H1 ⟨b, h1, h2, h3⟩ => ?_) (fun _ _ h => h.elim)
 subst h1; subst h3
 have hbq : b ≠ q := fun e => by rw [e, Hp.upd_same] at h2; cases h2
 refine RG.nilS (AC.block ?_)
 generalize hfr : Fr.put _ (some 6) _ = fr
 have f3 : fr 3 = .ptr q 0 := by rw [← hfr]; rfl
 have f6 : fr 6 = .func (.func 225) [] [.ptr b 0] := by rw [← hfr]; rfl
 clear hfr
 have hlim : ∀ (l s : List UInt8), s.length + l.length ≤ 20 → okR (fun s (_ : UInt8) => s.length < 20) putS s l := by
  intro l
  induction l with
  | nil => intro s _; trivial
  | cons c l ih =>
    intro s h
    rw [List.length_cons] at h
    exact ⟨by omega, fun _ => ih _ (by show (s ++ [c]).length + _ ≤ _; rw [List.length_append, List.length_singleton]; omega)⟩
 refine AC.rngJ (x := .t 6) (step := putS) f6 (Digits1_ok (by omega)) (fun _ => rfl) (fun s _ => s.length < 20) (fun s A => ∃ v, GR 5 1 (H.upd q (some (.cells [v] 65))) (s.map B8) s.length v A) (fun _ _ _ => False) ?_ [] _ (hlim _ _ (by simp only [List.length_nil]; omega)) ⟨.nils, GR.nil⟩ ⟨h2, notF_cells, trivial⟩ ?_ (fun _ _ h => by rw [runG_put] at h; cases h)
 · intro s c A lp L hL hlt ⟨v, hv⟩ hA
   have hqL : ∀ L', (A.upd lp (some L')) q = some (.cells [v] 65) := fun L' => by
    have := hv.look (k := q) Hp.upd_same
    rw [Hp.upd_ne (fun e => by rw [e, hA] at this; cases this)]; exact this
   refine AC.reg ?_
   refine go ?_
   refine RG.nil ⟨rfl, A, hA, rfl, fun L' hL' => ?_⟩
   refine AC.to [(3, .ptr q 0), (4, B8 c)] ⟨f3, rfl, trivial⟩ ?_
   obtain ⟨g1, g2⟩ := hv.up (k := lp) (o := L') hA
   refine AC.block (AC.reg ?_)
   refine RG.ld .d rfl (hqL L') rfl ?_
   refine go1 ?_
   refine RG.zD ?_
   refine GR.app (ys := [B8 c]) (m := 1) .d g2 rfl rfl (by omega) (by omega) fun v' A' hv' => ?_
   have hqq : A' q = some (.cells [v] 65) := hv'.look (by rw [Hp.upd_ne (fun e => by rw [← e, Hp.upd_same] at g1; cases g1)]; exact Hp.upd_same)
   refine RG.sto1 .d rfl hqq rfl hv'.cells ?_
   have hlq : lp ≠ q := fun e => by rw [e, Hp.upd_same] at g1; cases g1
   have hv2 := hv'.set (k := q) (o' := .cells [v'] 65) (by rw [Hp.upd_ne (Ne.symm hlq)]; exact Hp.upd_same)
   rw [Hp.upd_comm hlq, Hp.upd_upd] at hv2
   obtain ⟨A2, k1, k2, k3, k4⟩ := hv2.down (by rw [Hp.upd_ne hlq]; rw [Hp.upd_ne hlq] at g1; exact g1)
   refine RG.nil ⟨A2, rfl, ⟨v', ?_⟩, k3, by rw [← k4]; exact SubH.refl _⟩
   show GR _ _ _ ((s ++ [c]).map B8) (s ++ [c]).length v' A2
   rw [List.map_append, List.length_append]; exact k1
 · intro A' _ hI hF
   rw [runG_put] at hI
   obtain ⟨v, hv⟩ := hI
   dsimp only at hv
   rw [List.nil_append] at hv
   show AC _ _ _ _ _ _ _ _
   refine AC.to [(3, .ptr q 0)] ⟨f3, trivial⟩ ?_
   refine AC.seq (AC.reg ?_)
   have hqq := hv.look (k := q) Hp.upd_same
   have hqq' : addB (digB b k) A' q = some (.cells [v] 65) := by rw [digB, addB, addB, Hp.upd_ne (Ne.symm hbq)]; exact hqq
   refine RG.ld .d rfl hqq' rfl ?_
   refine b2s_GR hv rfl rfl ?_
   refine au ?_
   exact AC.ret (finD (H' := H) rfl (((SubH.fresh hq).trans hv.sub).trans (freeB_sub hF)) ⟨rfl, rfl⟩)
theorem fig_lt {c : UInt8} : decide (((c.toNat : Nat) : Int) < 48) = decide (c < 48) := by rw [decide_eq_decide, UInt8.lt_iff_toNat_lt]; simp; omega
theorem fig_gt {c : UInt8} : decide (((c.toNat : Nat) : Int) > 57) = decide (c > 57) := by rw [decide_eq_decide, gt_iff_lt, gt_iff_lt, UInt8.lt_iff_toNat_lt]; simp; omega
open Go Go.Run Go.RowKit
open Go.Proofs.Tryz (prog)
def F26 : FN := ⟨42, (.seq (.reg [ji 2 (.mv (ci 0)), ji 3 (.mv (ci 0))])
 (.seq (.block 0 (.seq (.reg [ji 8 (.mv (.t 0)), ji 9 (.bin .eql (.t 8) (.c (.str []))), ji 7 (.mv (.t 9))])
 (.cond (.t 7) (.seq (.reg [ji 2 (.mv (ci 0)), ji 3 (.mv (ci 1))])
 .ret)
 (.seq (.reg [ji 11 (.mv (.t 0)), ji 12 (.len true (.t 11)), ji 13 (.bin .gtr (.t 12) (ci 1)), ji 14 (.mv (.t 13)), jg 15 14 true (.mv (.t 0)), jg 16 14 true (.idx (.t 15) (ci 0)), jg 17 14 true (.bin .eql (.t 16) (.c (.int .u8 48))), ji 18 (.pick (.t 14) (.t 17) (.c (.bool false))), ji 10 (.mv (.t 18))])
 (.cond (.t 10) (.seq (.reg [ji 2 (.mv (ci 0)), ji 3 (.mv (ci 3))])
 .ret)
 .skip)))))
 (.seq (.reg [ji 4 (.mv (ci 0))])
 (.seq (.seq (.reg [ji 19 (.mv (.t 0)), ji 20 (.s2b 5 (.t 19)), ji 21 (.len false (.t 20)), ji 22 (.mv (ci 0))])
 (.block 1 (.loop (.seq (.reg [ji 23 (.bin .lss (.t 22) (.t 21))])
 (.seq (.cond (.t 23) .skip
 (.exit 1))
 (.seq (.block 2 (.seq (.reg [ji 24 (.iadr 1 (.t 20) (.t 22)), ji 25 (.ld false 1 (.t 24)), ji 6 (.mv (.t 25))])
 (.seq (.seq (.reg [ji 26 (.mv (.t 6)), ji 27 (.bin .lss (.t 26) (.c (.int .u8 48))), ji 28 (.mv (.t 27)), jg 29 28 false (.mv (.t 6)), jg 30 28 false (.bin .gtr (.t 29) (.c (.int .u8 57))), ji 31 (.pick (.t 28) (.c (.bool true)) (.t 30))])
 (.cond (.t 31) (.seq (.reg [ji 2 (.mv (ci 0)), ji 3 (.mv (ci 3))])
 .ret)
 .skip))
 (.seq (.reg [ji 32 (.mv (.t 4)), ji 33 (.bin .mul (ci 10) (.t 32)), ji 34 (.mv (.t 6)), ji 35 (.bin .sub (.t 34) (.c (.int .u8 48))), ji 36 (.conv .i64 (.t 35)), ji 37 (.bin .add (.t 33) (.t 36)), ji 4 (.mv (.t 37))])
 (.seq (.reg [ji 38 (.mv (.t 4)), ji 39 (.bin .gtr (.t 38) (ci 268435456))])
 (.cond (.t 39) (.seq (.reg [ji 2 (.mv (ci 0)), ji 3 (.mv (ci 2))])
 .ret)
 .skip))))))
 (.reg [ji 40 (.bin .add (.t 22) (ci 1)), ji 22 (.mv (.t 40))])))))))
 (.seq (.reg [ji 41 (.mv (.t 4)), ji 2 (.mv (.t 41)), ji 3 (.mv (ci 0))])
 .ret))))), [.tmp 2, .tmp 3]⟩
theorem cF26 : cFn prog 26 = some F26 := by kernel_rfl
variable {G : Gl}
theorem u8_beq (c : UInt8) (k : Nat) (hk : k < 256) : (((c.toNat : Nat) : Int) == (k : Nat)) = (c == UInt8.ofNat k) := by
 rw [Bool.eq_iff_iff, beq_iff_eq, beq_iff_eq]
 constructor
 · intro h
   apply UInt8.toNat_inj.1
   rw [UInt8.toNat_ofNat']; omega
 · intro h; rw [h, UInt8.toNat_ofNat']; omega
theorem fig_rest (s : List UInt8) (hs : s.length ≤ 4611686018427387904) (H : Hp) : AC prog G none F26.N (ccSnd (ccSnd F26.c))
  (Fin F26.rs (fun d H' => d = .tup [.int .i64 (figGo s 0).1, .int .i64 (figGo s 0).2] ∧ H' = H) (fun _ _ => False)) (frOf [(0, .str s)]) H := by
 refine AC.seq (AC.reg ?_)
 refine go ?_
 refine RG.nilS (AC.seq (AC.seq (AC.reg ?_)))
 refine go ?_
 refine RG.s .d (ST.s2b rfl ?_)
 refine go ?_
 refine RG.nilS ?_
 have fin0 : ∀ {fr : Fr} {H2 : Hp} {a b : Int}, H2 = H → fr 2 = .int .i64 a → fr 3 = .int .i64 b → figGo s 0 = (a, b) → Fin F26.rs (fun d H' => d = .tup [.int .i64 (figGo s 0).1, .int .i64 (figGo s 0).2] ∧ H' = H) (fun _ _ => False) .ret fr H2 := by
  rintro fr H2 a b rfl h2 h3 h4
  rw [h4]
  exact fin rfl ⟨by show DV.tup [fr 2, fr 3] = _; rw [h2, h3], rfl⟩
 refine AC.bloopH (α := Nat × Int) (β := Int) (fun a => s.length - a.1) (fun a => [(4, .int .i64 a.2), (20, .lst (s.map B8) s.length 1 none), (21, .int .i64 s.length), (22, .int .i64 a.1)])
  (fun a H' => H' = H ∧ a.1 ≤ s.length ∧ figGo s 0 = figGo (s.drop a.1) a.2 ∧ 0 ≤ a.2 ∧ a.2 ≤ 268435456) (fun n => [(4, .int .i64 n)])
  (fun n H' => H' = H ∧ figGo s 0 = (n, 0)) ?_ ?_ (0, 0) _ ⟨rfl, Nat.zero_le _, rfl, by decide, by decide⟩ ⟨rfl, rfl, rfl, rfl, trivial⟩
 · rintro n He fr ⟨rfl, h⟩ hfr
   refine AC.to _ hfr ?_
   show AC _ _ _ _ _ _ _ _
   refine au ?_
   exact AC.ret (fin0 rfl rfl rfl h)
 · rintro ⟨i, n⟩ H' ⟨rfl, h2, h3, h4, h5⟩ ih ex
   dsimp only at h2 h3 h4 h5 ih ⊢
   refine AC.seq (AC.reg ?_)
   refine go ?_
   cases e1 : decide ((i : Int) < s.length)
   · have e := of_decide_eq_false e1
     have hd : s.drop i = [] := List.drop_eq_nil_of_le (by omega)
     rw [hd] at h3
     exact RG.nilS (AC.seq (AC.cond_f rfl (AC.exit (ex n _ _ ⟨rfl, h3⟩ ⟨rfl, trivial⟩))))
   · have e := of_decide_eq_true e1
     have hi : i < s.length := by omega
     rw [List.drop_eq_getElem_cons hi, figGo] at h3
     refine RG.nilS (AC.seq (AC.cond_t rfl (AC.skip (AC.seq (AC.block (AC.seq (AC.reg ?_)))))))
     refine RG.p .d (evP_iadr wh wh (by omega)) ?_
     refine RG.p .d (evP_ldc wh (partD_one (d := B8 s[i]) (by simp [hi]))) ?_
     generalize s[i] = c at h3
     refine go ?_
     refine RG.nilS (AC.seq (AC.seq (AC.reg ?_)))
     refine go1 ?_
     refine RG.p (d := .bool (decide (c < 48))) .d (congrArg (fun b => some (DV.bool b)) fig_lt) ?_
     refine go ?_
     cases c1 : decide (c < 48)
     case true =>
      rw [c1, Bool.true_or, cond_true] at h3
      refine au ?_
      exact AC.ret (fin0 rfl rfl rfl h3)
     refine go1 ?_
     refine RG.p (d := .bool (decide (c > 57))) .d (congrArg (fun b => some (DV.bool b)) fig_gt) ?_
     refine go ?_
     cases c2 : decide (c > 57)
     case true =>
      rw [c1, c2, Bool.or_true, cond_true] at h3
      refine au ?_
      exact AC.ret (fin0 rfl rfl rfl h3)
     rw [c1, c2, Bool.or_self, cond_false] at h3
     have hc1 := of_decide_eq_false c1
     have hc2 := of_decide_eq_false c2
     rw [UInt8.lt_iff_toNat_lt] at hc1
     rw [gt_iff_lt, UInt8.lt_iff_toNat_lt] at hc2
     have k48 : (48 : UInt8).toNat = 48 := rfl
     have k57 : (57 : UInt8).toNat = 57 := rfl
     rw [k48] at hc1
     rw [k57] at hc2
     refine RG.nilS (AC.cond_f rfl (AC.skip (AC.seq (AC.reg ?_))))
     refine go1 ?_
     refine RG.p (d := .int .i64 (10 * n)) .d (by
      show some (DV.int .i64 (IntKind.wrap .i64 (10 * n))) = _
      rw [IntWalk.i64_in _ (by omega)]) ?_
     refine go1 ?_
     refine RG.p (d := .int .u8 ((c.toNat : Int) - 48)) .d (by
      show some (DV.int .u8 (IntKind.wrap .u8 ((c.toNat : Int) - 48))) = _
      rw [IntWalk.u8_in _ (by omega)]) ?_
     refine RG.p (d := .int .i64 ((c.toNat : Int) - 48)) .d (by
      show some (DV.int .i64 (IntKind.wrap .i64 ((c.toNat : Int) - 48))) = _
      rw [IntWalk.i64_in _ (by omega)]) ?_
     refine RG.addI .d wh wh (by omega) ?_
     refine go ?_
     refine RG.nilS (AC.seq (AC.reg ?_))
     refine go ?_
     cases c3 : decide (10 * n + ((c.toNat : Int) - 48) > 268435456)
     case true =>
      rw [c3, cond_true] at h3
      refine au ?_
      exact AC.ret (fin0 rfl rfl rfl h3)
     rw [c3, cond_false] at h3
     have hc3 := of_decide_eq_false c3
     refine RG.nilS (AC.cond_f rfl (AC.skip (AC.reg ?_)))
     refine go ?_
     exact RG.nil (ih (i + 1, 10 * n + ((c.toNat : Int) - 48)) _ ⟨rfl, by dsimp only; omega, h3, by dsimp only; omega, by dsimp only; omega⟩ (by dsimp only; omega) _ ⟨rfl, rfl, rfl, rfl, trivial⟩)
theorem figRead_ok (s : List UInt8) (hs : s.length ≤ 4611686018427387904) : PF prog G 26 [.str s] (.tup [.int .i64 (figF s).1, .int .i64 (figF s).2]) := by
 intro H
 refine CALL.of cF26 (Nat.le_of_ble_eq_true rfl) ?_
 refine au ?_
 cases s with
 | nil =>
   refine au ?_
   exact AC.ret (fin rfl ⟨rfl, rfl⟩)
 | cons c l =>
   have e0 : ((c :: l : List UInt8) == []) = false := rfl
   refine au ?_
   have e1 : decide ((((c :: l : List UInt8).length : Nat) : Int) > 1) = decide (0 < l.length) := by rw [decide_eq_decide, List.length_cons]; omega
   rw [e1]
   have rest := fig_rest (G := G) (c :: l) hs H
   cases h1 : decide (0 < l.length)
   case true =>
    refine go1 ?_
    refine RG.at .d wh wh (by omega) (b := c) rfl ?_
    refine RG.p (d := .bool (c == 48)) .d (congrArg (fun b => some (DV.bool b)) (u8_beq c 48 (by decide))) ?_
    cases h2 : c == 48
    case true =>
     refine au ?_
     exact AC.ret (fin rfl ⟨by rw [figF, h1, h2]; rfl, rfl⟩)
    rw [figF, h1, h2]
    refine go ?_
    refine RG.nilS ?_
    refine AC.cond_f rfl ?_
    refine AC.skip ?_
    exact AC.to [(0, .str (c :: l))] ⟨rfl, trivial⟩ rest
   case false =>
    rw [figF, h1]
    refine go ?_
    refine RG.nilS ?_
    refine AC.cond_f rfl ?_
    refine AC.skip ?_
    exact AC.to [(0, .str (c :: l))] ⟨rfl, trivial⟩ rest
open Go Go.Run Go.RowKit
open Go.Proofs.Tryz (prog)
def F15 : FN := ⟨46, (.seq (.reg [ji 2 (.alloc [(.int .i64 0), (.str []), (.str []), (.bool false), .nils] 24), ji 3 (.alloc [(.int .i64 0)] 3), ji 4 (.alloc [(.int .i64 0)] 29)])
 (.seq (.block 0 (.seq (.reg [ji 8 (.mv (.t 0)), ji 9 (.len true (.t 8)), ji 10 (.bin .gtr (.t 9) (ci 12000)), ji 7 (.mv (.t 10))])
 (.cond (.t 7) (.seq (.reg [ji 11 (.bld [(.int .i64 0), (.str []), (.str []), (.bool false), .nils] []), jn (.st 5 (.t 2) (.t 11)), jn (.st 1 (.t 3) (ci 0)), jn (.st 1 (.t 4) (ci 8))])
 .ret)
 (.seq (.reg [ji 13 (.mv (.t 0)), ji 14 (.call 48 [(.t 13)]), ji 15 (.un .not (.t 14)), ji 12 (.mv (.t 15))])
 (.cond (.t 12) (.seq (.reg [ji 16 (.bld [(.int .i64 0), (.str []), (.str []), (.bool false), .nils] []), jn (.st 5 (.t 2) (.t 16)), jn (.st 1 (.t 3) (ci 0)), jn (.st 1 (.t 4) (ci 16))])
 .ret)
 .skip)))))
 (.seq (.reg [ji 17 (.mkfn (.func 49) [] [(.t 2), (.t 3), (.t 4)]),
  ⟨none, none, .oth (.defer ⟨.value (.tmp 17), #[], #[]⟩)⟩])
 (.seq (.reg [ji 18 (.mv (.t 0)), ji 19 (.bld [(.str []), (.int .i64 0)] [(0, 1, (.t 18))]), ji 20 (.box 91 (.t 19)), ji 5 (.mv (.t 20))])
 (.seq (.seq (.reg [ji 21 (.mv (.t 5)), ji 22 (.call 50 [(.t 21), (.c (.str [60, 63, 120, 109, 108]))])])
 (.cond (.t 22) (.reg [ji 23 (.mv (.t 5)), ji 24 (.call 51 [(.t 23), (.c (.str [63, 62]))])])
 .skip))
 (.seq (.reg [ji 25 (.mv (.t 5)), ji 26 (.call 52 [(.t 25)])])
 (.seq (.reg [ji 27 (.mv (.t 5)), ji 28 (.call 53 [(.t 27), (ci 0), (ci 1)]), jn (.st 5 (.t 2) (.t 28))])
 (.seq (.reg [ji 29 (.mv (.t 5)), ji 30 (.call 52 [(.t 29)])])
 (.seq (.draw [ji 31 (.mv (.t 5)), ji 32 (.call 55 [(.t 31)]), ji 33 (.bin .eql (.t 32) (.c (.str []))), ji 34 (.mv (.t 5)), ji 35 (.nilc (.t 34)), ji 36 (.fadr 1 (.t 35)), ji 37 (.ld false 1 (.t 36)), ji 38 (.call 54 [(.t 33), (.t 37), (ci 6)])] [[], [0], [1], [], [3], [4], [5], [2, 6, 1]])
 (.seq (.seq (.reg [ji 39 (.ld true 5 (.t 2)), ji 40 (.call 38 [(.t 39)]), ji 6 (.mv (.t 40))])
 (.seq (.reg [ji 41 (.mv (.t 6)), ji 42 (.bin .neq (.t 41) (ci 0))])
 (.cond (.t 42) (.seq (.reg [ji 43 (.bld [(.int .i64 0), (.str []), (.str []), (.bool false), .nils] []), ji 44 (.mv (.t 6)), jn (.st 5 (.t 2) (.t 43)), jn (.st 1 (.t 3) (ci 0)), jn (.st 1 (.t 4) (.t 44))])
 .ret)
 .skip)))
 (.seq (.reg [ji 45 (.ld true 5 (.t 2)), jn (.st 5 (.t 2) (.t 45)), jn (.st 1 (.t 3) (ci 0)), jn (.st 1 (.t 4) (ci 0))])
 .ret))))))))))), [.cell 2 true 5, .cell 3 false 1, .cell 4 false 1]⟩
theorem cF15 : cFn prog 15 = some F15 := by kernel_rfl
def F49 : FN := ⟨16, (.seq (.reg [⟨(some 6), none, .oth (.call ⟨.builtin .recover, #[], #[]⟩)⟩, ji 7 (.oth (.typeAssert (.tmp 6) 20 87 true)), ji 5 (.mv (.t 7)), ji 8 (.ext (.t 5) 0), ji 9 (.ext (.t 5) 1), ji 3 (.alloc [(.int .i64 0), (.int .i64 0)] 87), jn (.st 2 (.t 3) (.t 8)), ji 4 (.mv (.t 9))])
 (.seq (.reg [ji 10 (.mv (.t 4))])
 (.cond (.t 10) (.draw [ji 11 (.bld [(.int .i64 0), (.str []), (.str []), (.bool false), .nils] []), ji 12 (.fadr 0 (.t 3)), ji 13 (.ld false 1 (.t 12)), ji 14 (.fadr 1 (.t 3)), ji 15 (.ld false 1 (.t 14)), jn (.st 5 (.t 0) (.t 11)), jn (.st 1 (.t 1) (.t 13)), jn (.st 1 (.t 2) (.t 15))] [[], [], [1], [], [3], [0, 0], [2, 5, 0, 1, 2, 5], [4, 6, 0, 1, 2, 3, 4, 5, 6]])
 .skip))), []⟩
theorem cF49 : cFn prog 49 = some F49 := by kernel_rfl
variable {G : Gl}
theorem EF_sto {x y : X} {b off sz N : Nat} {r dst : Option Nat} {fr : Fr} {H : Hp} {d : DV} {cs ys : List DV} {ty : TypeId} (hx : XV G fr x = .ptr b off) (hb : H b = some (.cells cs ty)) (hy : XV G fr y = d) (hc : cellsD d = some ys) (hl : ys.length = sz) (hle : off + sz ≤ cs.length) :
  EF prog G r N ⟨dst, none, .st sz x y⟩ (fun d' H' => d' = .junk ∧ H' = H.upd b (some (.cells (spliceL off ys cs) ty))) (fun _ _ => False) fr H := by
 intro fr1 l Q hs k kp
 have e : ∀ z, z = x ∨ z = y → XV G fr1 z = XV G fr z := fun z hz => XV_congr fun t ht => hs t (by
  unfold slotsI; exact List.mem_append_left _ (List.mem_flatMap.2 ⟨z, by rcases hz with rfl | rfl <;> simp [opX], ht⟩))
 exact RG.sto (g := none) trivial ((e x (.inl rfl)).trans hx) hb ((e y (.inr rfl)).trans hy) hc hl hle (k _ _ ⟨rfl, rfl⟩)
noncomputable def faultFs : Array Field := match (prog).underlying 87 with | some (.struct fs) => fs | _ => #[]
theorem fault_under : (prog).underlying 87 = some (.struct faultFs) := by kernel_rfl
theorem fault_info : (prog).info? 87 = some Go.Proofs.Tryz.t87 := by kernel_rfl
theorem spl2 (a b c d : DV) : spliceL 0 [a, b] [c, d] = [a, b] := rfl
theorem read1_some {b2 b3 b4 : Nat} {y0 y1 y2 y3 y4 x3 x4 : DV} {t2 t3 t4 : TypeId} {H : Hp} (h2 : H b2 = some (.cells [y0, y1, y2, y3, y4] t2)) (h3 : H b3 = some (.cells [x3] t3)) (h4 : H b4 = some (.cells [x4] t4)) (h23 : b2 ≠ b3) (h24 : b2 ≠ b4) (h34 : b3 ≠ b4) (a e : Int) :
  DCALL prog G 49 [.ptr b2 0, .ptr b3 0, .ptr b4 0] (some (fault a e)) H (fun H' => SubH (((H.upd b2 (some (.cells Z5 t2))).upd b3 (some (.cells [.int .i64 a] t3))).upd b4 (some (.cells [.int .i64 e] t4))) H') := by
 refine DCALL.of cF49 (Nat.le_of_ble_eq_true rfl) rfl rfl rfl ?_
 refine RG.st (ST.assertY fault_under rfl ?_)
 refine go1 ?_
 refine go1 ?_
 refine go1 ?_
 refine RG.alloc .d fun q hq => ?_
 have hq2 : q ≠ b2 := fun e => by rw [e, h2] at hq; cases hq
 have hq3 : q ≠ b3 := fun e => by rw [e, h3] at hq; cases hq
 have hq4 : q ≠ b4 := fun e => by rw [e, h4] at hq; cases hq
 refine RG.sto (ys := [.int .i64 a, .int .i64 e]) .d wh Hp.upd_same (by exact rfl) rfl rfl (by exact Nat.le_refl _) ?_
 rw [Hp.upd_upd, spl2]
 have hqq : (H.upd q (some (.cells [.int .i64 a, .int .i64 e] 87))) q = some (.cells [.int .i64 a, .int .i64 e] 87) := Hp.upd_same
 have hk2 : (H.upd q (some (.cells [.int .i64 a, .int .i64 e] 87))) b2 = some (.cells [y0, y1, y2, y3, y4] t2) := by rw [Hp.upd_ne (Ne.symm hq2)]; exact h2
 have hk3 : (H.upd q (some (.cells [.int .i64 a, .int .i64 e] 87))) b3 = some (.cells [x3] t3) := by rw [Hp.upd_ne (Ne.symm hq3)]; exact h3
 have hk4 : (H.upd q (some (.cells [.int .i64 a, .int .i64 e] 87))) b4 = some (.cells [x4] t4) := by rw [Hp.upd_ne (Ne.symm hq4)]; exact h4
 have hsub : SubH (((H.upd b2 (some (.cells Z5 t2))).upd b3 (some (.cells [.int .i64 a] t3))).upd b4 (some (.cells [.int .i64 e] t4))) ((((H.upd q (some (.cells [.int .i64 a, .int .i64 e] 87))).upd b2 (some (.cells Z5 t2))).upd b3 (some (.cells [.int .i64 a] t3))).upd b4 (some (.cells [.int .i64 e] t4))) :=
  SubH.updB (SubH.updB (SubH.updB (SubH.fresh hq) b2 _) b3 _) b4 _
 generalize H.upd q (some (.cells [.int .i64 a, .int .i64 e] 87)) = HH at hqq hk2 hk3 hk4 hsub ⊢
 refine go ?_
 refine RG.nilS (AC.seq (AC.reg ?_))
 refine go ?_
 refine RG.nilS (AC.cond_t rfl (AC.drawV [5, 6, 7] rfl ?_))
 first|refine VD.z0 0 ?_|refine VD.z1 0 ?_|refine VD.z2 0 ?_|refine VD.z3 0 ?_|refine VD.z4 0 ?_|refine VD.z5 0 ?_
 first|refine VD.z0 1 ?_|refine VD.z1 1 ?_|refine VD.z2 1 ?_|refine VD.z3 1 ?_|refine VD.z4 1 ?_|refine VD.z5 1 ?_
 first|refine VD.z0 2 ?_|refine VD.z1 2 ?_|refine VD.z2 2 ?_|refine VD.z3 2 ?_|refine VD.z4 2 ?_|refine VD.z5 2 ?_
 first|refine VD.z0 3 ?_|refine VD.z1 3 ?_|refine VD.z2 3 ?_|refine VD.z3 3 ?_|refine VD.z4 3 ?_|refine VD.z5 3 ?_
 first|refine VD.z0 4 ?_|refine VD.z1 4 ?_|refine VD.z2 4 ?_|refine VD.z3 4 ?_|refine VD.z4 4 ?_|refine VD.z5 4 ?_
 refine VD.pe 5 rfl rfl (EF_sto (d := .agg Z5) (cs := [y0, y1, y2, y3, y4]) (ty := t2) rfl hk2 rfl rfl rfl (by exact Nat.le_refl _)) (fun _ _ _ h => h.elim) (fun d H' ⟨f1, f2⟩ => ⟨?_, ?_⟩)
 · subst f2; exact stb
 subst f1; subst f2
 refine VD.pe 6 rfl rfl (EF_sto (d := .int .i64 a) (cs := [x3]) (ty := t3) rfl (by rw [Hp.upd_ne (Ne.symm h23)]; exact hk3) rfl rfl rfl (by exact Nat.le_refl _)) (fun _ _ _ h => h.elim) (fun d H' ⟨f1, f2⟩ => ⟨?_, ?_⟩)
 · subst f2; exact stb
 subst f1; subst f2
 refine VD.pe 7 rfl rfl (EF_sto (d := .int .i64 e) (cs := [x4]) (ty := t4) rfl (by rw [Hp.upd_ne (Ne.symm h34), Hp.upd_ne (Ne.symm h24)]; exact hk4) rfl rfl rfl (by exact Nat.le_refl _)) (fun _ _ _ h => h.elim) (fun d H' ⟨f1, f2⟩ => ⟨?_, ?_⟩)
 · subst f2; exact stb
 subst f1; subst f2
 refine VD.pd rfl ?_
 exact hsub
theorem read1_none {b2 b3 b4 : Nat} {H : Hp} : DCALL prog G 49 [.ptr b2 0, .ptr b3 0, .ptr b4 0] none H (fun H' => SubH H H') := by
 refine DCALL.of cF49 (Nat.le_of_ble_eq_true rfl) rfl rfl rfl ?_
 refine RG.st (ST.assertN (d0 := .agg [.int .i64 0, .int .i64 0]) fault_under fault_info (z0 := .agg #[.int .i64 0, .int .i64 0]) rfl ?_ rfl ?_)
 · intro w H Z
   refine .agg _ _ rfl (fun j v h => ?_) (fun j v d h1 h2 => ?_)
   · match j with
     | 0 => simp at h; subst h; rfl
     | 1 => simp at h; subst h; rfl
     | j + 2 => simp at h
   · match j with
     | 0 => simp at h1 h2; subst h1; subst h2; exact .int _ _
     | 1 => simp at h1 h2; subst h1; subst h2; exact .int _ _
     | j + 2 => simp at h2
 refine go1 ?_
 refine go1 ?_
 refine go1 ?_
 refine RG.alloc .d fun q hq => ?_
 refine RG.sto (ys := [.int .i64 0, .int .i64 0]) .d wh Hp.upd_same (by exact rfl) rfl rfl (by exact Nat.le_refl _) ?_
 rw [Hp.upd_upd]
 refine go ?_
 refine RG.nilS (AC.seq (AC.reg ?_))
 refine go ?_
 refine RG.nilS (AC.cond_f rfl (AC.skip ?_))
 exact SubH.fresh hq
def rdRs : List RV := [.cell 2 true 5, .cell 3 false 1, .cell 4 false 1]
theorem rd3 {fr : Fr} {He : Hp} {b2 b3 b4 : Nat} {y0 y1 y2 y3 y4 x3 x4 : DV} {t2 t3 t4 : TypeId} (e2 : fr 2 = .ptr b2 0) (e3 : fr 3 = .ptr b3 0) (e4 : fr 4 = .ptr b4 0) (h2 : He b2 = some (.cells [y0, y1, y2, y3, y4] t2)) (h3 : He b3 = some (.cells [x3] t3)) (h4 : He b4 = some (.cells [x4] t4)) :
  evRes He fr rdRs = some [.agg [y0, y1, y2, y3, y4], x3, x4] := by
 have k2 : ldD He true 5 (.ptr b2 0) = some (.agg [y0, y1, y2, y3, y4]) := by unfold ldD; dsimp only; rw [h2]; rfl
 have k3 : ldD He false 1 (.ptr b3 0) = some x3 := by unfold ldD; dsimp only; rw [h3]; rfl
 have k4 : ldD He false 1 (.ptr b4 0) = some x4 := by unfold ldD; dsimp only; rw [h4]; rfl
 simp only [rdRs, evRes, e2, e3, e4, k2, k3, k4, Option.bind_some]
def KrR (s : List UInt8) (H : Hp) : DV → Hp → Prop := fun d H' => d = .tup [.agg (elC (readF s).1), .int .i64 (readF s).2.1, .int .i64 (readF s).2.2] ∧ H' = H
theorem finR_ok {s : List UInt8} {H : Hp} {fr : Fr} {He : Hp} {b2 b3 b4 : Nat} {y0 y1 y2 y3 y4 : DV} {t2 t3 t4 : TypeId} {x : El} {a e : Int} (hR : readF s = (x, a, e)) (e2 : fr 2 = .ptr b2 0) (e3 : fr 3 = .ptr b3 0) (e4 : fr 4 = .ptr b4 0)
  (h2 : He b2 = some (.cells [y0, y1, y2, y3, y4] t2)) (h3 : He b3 = some (.cells [.int .i64 a] t3)) (h4 : He b4 = some (.cells [.int .i64 e] t4)) (hle : DLe (.agg [y0, y1, y2, y3, y4]) (.agg (elC x))) (hs : SubH H He) : FinR rdRs (KrR s H) fr He := by
 refine ⟨_, .tup [.agg (elC x), .int .i64 a, .int .i64 e], H, rd3 e2 e3 e4 h2 h3 h4, Cv.of ?_ hs, ?_, rfl⟩
 · exact (DLes.cons hle (.cons (DLe.refl _) (.cons (DLe.refl _) .nil))).tup
 · rw [hR]
theorem el0_le : DLe (.agg [.int .i64 0, .str [], .str [], .bool false, .nils]) (.agg (elC El0)) := by
 have : elC El0 = [.int .i64 0, .str [], .str [], .bool false, .lst [] 0 5 none] := by rw [El0, elC]; rfl
 rw [this]
 exact (DLes.cons (DLe.refl _) (.cons (DLe.refl _) (.cons (DLe.refl _) (.cons (DLe.refl _) (.cons DLe.nils .nil))))).agg
theorem badR {s : List UInt8} {H : Hp} {fr : Fr} {He : Hp} {b2 b3 b4 : Nat} {y0 y1 y2 y3 y4 x3 x4 : DV} {t2 t3 t4 : TypeId} {a e : Int} (hR : readF s = (El0, a, e)) (e2 : fr 2 = .ptr b2 0) (e3 : fr 3 = .ptr b3 0) (e4 : fr 4 = .ptr b4 0)
  (h2 : He b2 = some (.cells [y0, y1, y2, y3, y4] t2)) (h3 : He b3 = some (.cells [x3] t3)) (h4 : He b4 = some (.cells [x4] t4)) (h23 : b2 ≠ b3) (h24 : b2 ≠ b4) (h34 : b3 ≠ b4) (g2 : H b2 = none) (g3 : H b3 = none) (g4 : H b4 = none) (hs : SubH H He) :
  FinD prog G 49 [.ptr b2 0, .ptr b3 0, .ptr b4 0] rdRs (KrR s H) (.panic (fault a e)) fr He := by
 refine (read1_some h2 h3 h4 h23 h24 h34 a e).mono fun H' hk => ?_
 refine finR_ok (t2 := t2) (t3 := t3) (t4 := t4) hR e2 e3 e4 (hk _ _ ?_) (hk _ _ ?_) (hk _ _ ?_) el0_le (SubH.trans (SubH.over (SubH.over (SubH.over hs g2) g3) g4) hk)
 · rw [Hp.upd_ne h24, Hp.upd_ne h23]; exact Hp.upd_same
 · rw [Hp.upd_ne h34]; exact Hp.upd_same
 · exact Hp.upd_same
theorem goodR {s : List UInt8} {H : Hp} {fr : Fr} {He : Hp} {b2 b3 b4 : Nat} {y0 y1 y2 y3 y4 : DV} {t2 t3 t4 : TypeId} {x : El} {a e : Int} (hR : readF s = (x, a, e)) (e2 : fr 2 = .ptr b2 0) (e3 : fr 3 = .ptr b3 0) (e4 : fr 4 = .ptr b4 0)
  (h2 : He b2 = some (.cells [y0, y1, y2, y3, y4] t2)) (h3 : He b3 = some (.cells [.int .i64 a] t3)) (h4 : He b4 = some (.cells [.int .i64 e] t4)) (hle : DLe (.agg [y0, y1, y2, y3, y4]) (.agg (elC x))) (hs : SubH H He) :
  FinD prog G 49 [.ptr b2 0, .ptr b3 0, .ptr b4 0] rdRs (KrR s H) .ret fr He :=
 read1_none.mono fun _ hk => finR_ok hR e2 e3 e4 (hk _ _ h2) (hk _ _ h3) (hk _ _ h4) hle (hs.trans hk)
theorem noDst {l : List Ins} {t : Nat} (h : l.all (fun y => !(y.dst == some t)) = true) : ∀ (j : Nat) (y : Ins), l[j]? = some y → y.dst ≠ some t := by
 intro j y hj e
 have := List.all_eq_true.1 h y (List.mem_of_getElem? hj)
 rw [e] at this
 simp at this
def R3 (H : Hp) (b2 b3 b4 : Nat) (c2 : List DV) (x3 x4 : DV) : Hp := ((H.upd b2 (some (.cells c2 elT))).upd b3 (some (.cells [x3] 3))).upd b4 (some (.cells [x4] 29))
theorem Read_ok (hG : GOK G) (s : List UInt8) : PF prog G 15 [.str s] (.tup [.agg (elC (readF s).1), .int .i64 (readF s).2.1, .int .i64 (readF s).2.2]) := by
 intro H
 show CALL prog G 15 [.str s] H (KrR s H) (fun _ _ => False)
 refine CALL.ofD cF15 (Nat.le_of_ble_eq_true rfl) rfl rfl rfl (by decide) (fun fr He => ∃ b2 b3 b4, Agrees fr [(0, .str s), (2, .ptr b2 0), (3, .ptr b3 0), (4, .ptr b4 0)] ∧ He = R3 H b2 b3 b4 Z5 (.int .i64 0) (.int .i64 0) ∧ H b2 = none ∧ H b3 = none ∧ H b4 = none ∧ b2 ≠ b3 ∧ b2 ≠ b4 ∧ b3 ≠ b4 ∧ decide (((s.length : Nat) : Int) > 12000) = false ∧ Lib.validD s = true) ?_ ?_ ?_
 · refine AC.reg ?_
   refine RG.alloc .d fun b2 g2 => ?_
   refine RG.alloc .d fun b3 g3' => ?_
   refine RG.alloc .d fun b4 g4' => ?_
   have h23 : b2 ≠ b3 := fun e => by rw [← e, Hp.upd_same] at g3'; cases g3'
   have h34 : b3 ≠ b4 := fun e => by rw [← e, Hp.upd_same] at g4'; cases g4'
   have h24 : b2 ≠ b4 := fun e => by rw [← e, Hp.upd_ne h23, Hp.upd_same] at g4'; cases g4'
   have g3 : H b3 = none := by rw [Hp.upd_ne (Ne.symm h23)] at g3'; exact g3'
   have g4 : H b4 = none := by rw [Hp.upd_ne (Ne.symm h34), Hp.upd_ne (Ne.symm h24)] at g4'; exact g4'
   have hk2 : (R3 H b2 b3 b4 Z5 (.int .i64 0) (.int .i64 0)) b2 = some (.cells Z5 elT) := by unfold R3; rw [Hp.upd_ne h24, Hp.upd_ne h23]; exact Hp.upd_same
   have hk3 : (R3 H b2 b3 b4 Z5 (.int .i64 0) (.int .i64 0)) b3 = some (.cells [.int .i64 0] 3) := by unfold R3; rw [Hp.upd_ne h34]; exact Hp.upd_same
   have hk4 : (R3 H b2 b3 b4 Z5 (.int .i64 0) (.int .i64 0)) b4 = some (.cells [.int .i64 0] 29) := by unfold R3; exact Hp.upd_same
   have hsub : SubH H (R3 H b2 b3 b4 Z5 (.int .i64 0) (.int .i64 0)) := SubH.over (SubH.over (SubH.over (SubH.refl H) g2) g3) g4
   have hHH : ((H.upd b2 (some (.cells [.int .i64 0, .str [], .str [], .bool false, .nils] 24))).upd b3 (some (.cells [.int .i64 0] 3))).upd b4 (some (.cells [.int .i64 0] 29)) = R3 H b2 b3 b4 Z5 (.int .i64 0) (.int .i64 0) := rfl
   rw [hHH]
   -- an early end
   have early : ∀ {e : Int} {fr : Fr} {He : Hp}, readF s = (El0, 0, e) → fr 2 = .ptr b2 0 → fr 3 = .ptr b3 0 → fr 4 = .ptr b4 0 → He = ((((R3 H b2 b3 b4 Z5 (.int .i64 0) (.int .i64 0)).upd b2 (some (.cells Z5 elT))).upd b3 (some (.cells [.int .i64 0] 3))).upd b4 (some (.cells [.int .i64 e] 29))) →
     Fin rdRs (KrR s H) (fun _ _ => False) .ret fr He := by
    intro e fr He hR e2 e3 e4 hHe
    subst hHe
    refine finR_ok (t2 := elT) (t3 := 3) (t4 := 29) hR e2 e3 e4 ?_ ?_ ?_ el0_le (SubH.over (SubH.over (SubH.over hsub g2) g3) g4)
    · rw [Hp.upd_ne h24, Hp.upd_ne h23]; exact Hp.upd_same
    · rw [Hp.upd_ne h34]; exact Hp.upd_same
    · exact Hp.upd_same
   generalize hRR : R3 H b2 b3 b4 Z5 (.int .i64 0) (.int .i64 0) = HH at hk2 hk3 hk4 early ⊢
   refine RG.nilS (AC.block (AC.seq (AC.reg ?_)))
   refine go1 ?_
   refine go1 ?_
   refine RG.p (d := .bool (decide (((s.length : Nat) : Int) > 12000))) .d rfl ?_
   refine go1 ?_
   cases e1 : decide (((s.length : Nat) : Int) > 12000)
   case true =>
    refine RG.nilS (AC.cond_t rfl (AC.seq (AC.reg ?_)))
    refine go1 ?_
    refine RG.sto (d := .agg Z5) (cs := Z5) (ty := elT) .d rfl hk2 rfl rfl rfl (by exact Nat.le_refl _) ?_
    refine RG.sto1 .d rfl (by rw [Hp.upd_ne (Ne.symm h23)]; exact hk3) rfl rfl ?_
    refine RG.sto1 .d rfl (by rw [Hp.upd_ne (Ne.symm h34), Hp.upd_ne (Ne.symm h24)]; exact hk4) rfl rfl ?_
    exact RG.nilS (AC.ret (early (by rw [readF, e1, cond_true]) rfl rfl rfl rfl))
   refine RG.nilS (AC.cond_f rfl (AC.seq (AC.reg ?_)))
   have hle := of_decide_eq_false e1
   refine go1 ?_
   refine RG.callP (ds := [.str s]) (d := .bool (Lib.validD s)) .d (by exact rfl) ?_ ?_
   · exact charsetValid_ok hG s (by omega)
   refine RG.p (d := .bool (!(Lib.validD s))) .d rfl ?_
   refine go1 ?_
   cases e2 : Lib.validD s
   · refine RG.nilS (AC.cond_t rfl (AC.seq (AC.reg ?_)))
     refine go1 ?_
     refine RG.sto (d := .agg Z5) (cs := Z5) (ty := elT) .d rfl hk2 rfl rfl rfl (by exact Nat.le_refl _) ?_
     refine RG.sto1 .d rfl (by rw [Hp.upd_ne (Ne.symm h23)]; exact hk3) rfl rfl ?_
     refine RG.sto1 .d rfl (by rw [Hp.upd_ne (Ne.symm h34), Hp.upd_ne (Ne.symm h24)]; exact hk4) rfl rfl ?_
     exact RG.nilS (AC.ret (early (by rw [readF, e1, e2, cond_false, Bool.not_false, cond_true]) rfl rfl rfl rfl))
   refine RG.nilS (AC.cond_f rfl (AC.skip ?_))
   exact ⟨b2, b3, b4, ⟨rfl, rfl, rfl, rfl, trivial⟩, hRR.symm, g2, g3, g4, h23, h24, h34, (by first | rfl | exact e1), (by first | rfl | exact e2)⟩
 · rintro fr He ⟨b2, b3, b4, ⟨f0, f2, f3, f4, _⟩, rfl, g2, g3, g4, h23, h24, h34, e1, e2⟩
   have hv : [X.t 2, X.t 3, X.t 4].map (XV G fr) = [.ptr b2 0, .ptr b3 0, .ptr b4 0] := by
    show [fr 2, fr 3, fr 4] = _
    rw [f2, f3, f4]
   rw [hv]
   refine AC.to [(0, .str s), (2, .ptr b2 0), (3, .ptr b3 0), (4, .ptr b4 0)] ⟨f0, f2, f3, f4, trivial⟩ ?_
   have hle := of_decide_eq_false e1
   have hRF : readF s = match readR s with | .error e => (El0, e.1, e.2) | .ok x => (x, 0, 0) := by rw [readF, e1, e2, cond_false, Bool.not_true, cond_false]; rfl
   have hk2 : (R3 H b2 b3 b4 Z5 (.int .i64 0) (.int .i64 0)) b2 = some (.cells Z5 elT) := by unfold R3; rw [Hp.upd_ne h24, Hp.upd_ne h23]; exact Hp.upd_same
   have hk3 : (R3 H b2 b3 b4 Z5 (.int .i64 0) (.int .i64 0)) b3 = some (.cells [.int .i64 0] 3) := by unfold R3; rw [Hp.upd_ne h34]; exact Hp.upd_same
   have hk4 : (R3 H b2 b3 b4 Z5 (.int .i64 0) (.int .i64 0)) b4 = some (.cells [.int .i64 0] 29) := by unfold R3; exact Hp.upd_same
   have hsub : SubH H (R3 H b2 b3 b4 Z5 (.int .i64 0) (.int .i64 0)) := SubH.over (SubH.over (SubH.over (SubH.refl H) g2) g3) g4
   generalize R3 H b2 b3 b4 Z5 (.int .i64 0) (.int .i64 0) = HH at hk2 hk3 hk4 hsub ⊢
   refine AC.seq (AC.reg ?_)
   refine go1 ?_
   refine go1 ?_
   refine RG.box (ys := [.str s, .int .i64 0]) .d rfl rfl fun b hb => ?_
   have hb2 : b2 ≠ b := fun e => by rw [← e, hk2] at hb; cases hb
   have hb3 : b3 ≠ b := fun e => by rw [← e, hk3] at hb; cases hb
   have hb4 : b4 ≠ b := fun e => by rw [← e, hk4] at hb; cases hb
   have gb : H b = none := by
    cases h : H b with
    | none => rfl
    | some o => rw [hsub _ _ h] at hb; cases hb
   refine go1 ?_
   have hHb : HH.upd b (some (.cells [.str s, .int .i64 0] 91)) = HH.upd b (rd s 0 91) := rfl
   rw [hHb]
   -- where the reader stands at 'i'
   have bad : ∀ {HX : Hp} {y0 y1 y2 y3 y4 : DV} {i : Nat} {e : Int × Int} {fr : Fr}, HX b2 = some (.cells [y0, y1, y2, y3, y4] elT) → HX b3 = some (.cells [.int .i64 0] 3) → HX b4 = some (.cells [.int .i64 0] 29) → SubH H HX → readR s = .error e → fr 2 = .ptr b2 0 → fr 3 = .ptr b3 0 → fr 4 = .ptr b4 0 → FinD prog G 49 [.ptr b2 0, .ptr b3 0, .ptr b4 0] rdRs (KrR s H) (.panic (fault e.1 e.2)) fr (HX.upd b (rd s i 91)) := by
    intro HX y0 y1 y2 y3 y4 i e fr hk2 hk3 hk4 hsub hR e2 e3 e4
    exact badR (by rw [hRF, hR]) e2 e3 e4 (by rw [Hp.upd_ne hb2]; exact hk2) (by rw [Hp.upd_ne hb3]; exact hk3) (by rw [Hp.upd_ne hb4]; exact hk4) h23 h24 h34 g2 g3 g4 (SubH.over hsub gb)
   refine RG.nilS (AC.seqI (I := fun fr' H2 => ∃ v i, (bif List.isPrefixOf headB s then uptoF s headE 5 else .ok ([], 0)) = .ok (v, i) ∧ i ≤ s.length ∧ H2 = HH.upd b (rd s i 91) ∧ Agrees fr' [(2, .ptr b2 0), (3, .ptr b3 0), (4, .ptr b4 0), (5, .ptr b 0)]) ?_ ?_)
   · refine AC.seq (AC.reg ?_)
     refine go1 ?_
     refine RG.callR .d rfl (has_ok (t := headB) Hp.upd_same (by omega) (by have : headB.length = 5 := rfl; omega)) ?_
     rw [Hp.upd_upd, List.drop_zero]
     cases e3 : List.isPrefixOf headB s
     · refine RG.nilS (AC.cond_f rfl (AC.skip ?_))
       exact ⟨[], 0, rfl, by omega, rfl, rfl, rfl, rfl, rfl, trivial⟩
     · have hpl := prefix_le (t := headB) (s := s) (i := 0) (by rw [List.drop_zero]; exact e3) (by simp [headB])
       have h5 : headB.length = 5 := rfl
       rw [h5] at hpl
       rw [cond_true, h5]
       refine RG.nilS (AC.cond_t rfl (AC.reg ?_))
       refine go1 ?_
       refine RG.call .d rfl (upto_ok' hG (t := headE) (i := 0 + 5) Hp.upd_same (by omega) (by have : headE.length = 2 := rfl; omega)) (fun d H3 ⟨⟨v, k2⟩, u1, u2, u3⟩ => ?_) (fun d H3 ⟨e, k2, u1, u2, u3, u4⟩ => ?_)
       · subst u3
         rw [Hp.upd_upd]
         have hp := uptoF_prog u1 (by omega)
         exact RG.nil ⟨v, k2, u1, hp.2, rfl, rfl, rfl, rfl, rfl, trivial⟩
       · subst u2; subst u4
         rw [Hp.upd_upd]
         refine bad hk2 hk3 hk4 hsub ?_ rfl rfl rfl
         have u1' : uptoF s headE 5 = .error e := u1
         rw [readR, e3, cond_true, u1']
   rintro fr' H2 ⟨v, i, hX, hi, rfl, hag⟩
   refine AC.to [(2, .ptr b2 0), (3, .ptr b3 0), (4, .ptr b4 0), (5, .ptr b 0)] hag ?_
   have hw := wsN_le (s.drop i)
   rw [List.length_drop] at hw
   refine AC.seq (AC.reg ?_)
   refine go1 ?_
   refine RG.callR .d rfl (space_ok Hp.upd_same hi (by omega)) ?_
   rw [Hp.upd_upd]
   refine RG.nilS (AC.seq (AC.reg ?_))
   refine go1 ?_
   refine RG.call .d rfl (elem_ok hG (by omega) 11 1 rfl 0 (i + wsN (s.drop i)) _ Hp.upd_same (by omega)) (fun d H3 ⟨⟨x, j⟩, u1, u2, u3⟩ => ?_) (fun d H3 ⟨e, k2, u1, u2, u3, u4⟩ => ?_)
   rotate_left
   · subst u2; subst u4
     rw [Hp.upd_upd]
     refine bad hk2 hk3 hk4 hsub ?_ rfl rfl rfl
     rw [readR, hX]
     dsimp only
     rw [u1]
   subst u2; subst u3
   rw [Hp.upd_upd]
   obtain ⟨hj1, hj2, hfit⟩ := elemF_prog 11 0 _ x j (by omega) u1
   obtain ⟨c0, c1, c2, c3, c4, hC⟩ : ∃ c0 c1 c2 c3 c4, elC x = [c0, c1, c2, c3, c4] := by
    obtain ⟨p, n, t, o, ks⟩ := x
    exact ⟨_, _, _, _, _, by rw [elC]⟩
   refine RG.sto (d := .agg (elC x)) (cs := Z5) (ty := elT) .d rfl (by rw [Hp.upd_ne hb2]; exact hk2) rfl rfl (elC_length x) (by exact Nat.le_refl _) ?_
   have hspl : spliceL 0 (elC x) Z5 = elC x := by rw [hC]; rfl
   rw [hspl, Hp.upd_comm (Ne.symm hb2)]
   have hRE : readR s = bif s.drop (j + wsN (s.drop j)) == [] then (bif checkF x == 0 then .ok x else .error (0, checkF x)) else .error (((j + wsN (s.drop j) : Nat) : Int), 6) := by
    rw [readR, hX]
    dsimp only
    rw [u1]
   have x2 : (HH.upd b2 (some (.cells (elC x) elT))) b2 = some (.cells [c0, c1, c2, c3, c4] elT) := by rw [hC]; exact Hp.upd_same
   have x3 : (HH.upd b2 (some (.cells (elC x) elT))) b3 = some (.cells [.int .i64 0] 3) := by rw [Hp.upd_ne (Ne.symm h23)]; exact hk3
   have x4 : (HH.upd b2 (some (.cells (elC x) elT))) b4 = some (.cells [.int .i64 0] 29) := by rw [Hp.upd_ne (Ne.symm h24)]; exact hk4
   have xsub : SubH H (HH.upd b2 (some (.cells (elC x) elT))) := SubH.over hsub g2
   generalize HH.upd b2 (some (.cells (elC x) elT)) = HX at x2 x3 x4 xsub ⊢
   have hwj := wsN_le (s.drop j)
   rw [List.length_drop] at hwj
   refine RG.nilS (AC.seq (AC.reg ?_))
   refine go1 ?_
   refine RG.callR .d rfl (space_ok (i := j) Hp.upd_same hj2 (by omega)) ?_
   rw [Hp.upd_upd]
   generalize hk : j + wsN (s.drop j) = k at hRE ⊢
   have hkl : k ≤ s.length := by omega
   refine RG.nilS (AC.seq (AC.drawVf [1, 7] rfl ?_))
   first | (refine VDf.pm 0 rfl rfl wh ?_) | (refine VDf.pv 0 rfl rfl (evP_ld wh hbb wh) ?_) | (refine VDf.pv 0 rfl rfl (evP_from wh wh (by omega)) ?_) | (refine VDf.pv 0 rfl rfl (evP_upto wh wh (by omega)) ?_) | (refine VDf.pv 0 rfl rfl (evP_addI wh wh (by omega)) ?_) | (refine VDf.pv 0 rfl rfl wh ?_)
   first | (refine VDf.pm 3 rfl rfl wh ?_) | (refine VDf.pv 3 rfl rfl (evP_ld wh hbb wh) ?_) | (refine VDf.pv 3 rfl rfl (evP_from wh wh (by omega)) ?_) | (refine VDf.pv 3 rfl rfl (evP_upto wh wh (by omega)) ?_) | (refine VDf.pv 3 rfl rfl (evP_addI wh wh (by omega)) ?_) | (refine VDf.pv 3 rfl rfl wh ?_)
   first | (refine VDf.pm 4 rfl rfl wh ?_) | (refine VDf.pv 4 rfl rfl (evP_ld wh hbb wh) ?_) | (refine VDf.pv 4 rfl rfl (evP_from wh wh (by omega)) ?_) | (refine VDf.pv 4 rfl rfl (evP_upto wh wh (by omega)) ?_) | (refine VDf.pv 4 rfl rfl (evP_addI wh wh (by omega)) ?_) | (refine VDf.pv 4 rfl rfl wh ?_)
   first | (refine VDf.pm 5 rfl rfl wh ?_) | (refine VDf.pv 5 rfl rfl (evP_ld wh hbb wh) ?_) | (refine VDf.pv 5 rfl rfl (evP_from wh wh (by omega)) ?_) | (refine VDf.pv 5 rfl rfl (evP_upto wh wh (by omega)) ?_) | (refine VDf.pv 5 rfl rfl (evP_addI wh wh (by omega)) ?_) | (refine VDf.pv 5 rfl rfl wh ?_)
   first | (refine VDf.pm 6 rfl rfl wh ?_) | (refine VDf.pv 6 rfl rfl (evP_ld wh hbb wh) ?_) | (refine VDf.pv 6 rfl rfl (evP_from wh wh (by omega)) ?_) | (refine VDf.pv 6 rfl rfl (evP_upto wh wh (by omega)) ?_) | (refine VDf.pv 6 rfl rfl (evP_addI wh wh (by omega)) ?_) | (refine VDf.pv 6 rfl rfl wh ?_)
   refine VDf.pe (K := fun d H' => d = .str (s.drop k) ∧ H' = HX.upd b (rd s k 91)) (Kp := fun _ _ => False) 1 rfl rfl (EFf.call rfl (left_ok Hp.upd_same hkl)) (fun _ _ _ h => h.elim) (fun d H' ⟨f1, f2⟩ => ?_)
   subst f1; subst f2
   refine ⟨stb, ?_⟩
   first | (refine VDf.pm 2 rfl rfl wh ?_) | (refine VDf.pv 2 rfl rfl (evP_ld wh hbb wh) ?_) | (refine VDf.pv 2 rfl rfl (evP_from wh wh (by omega)) ?_) | (refine VDf.pv 2 rfl rfl (evP_upto wh wh (by omega)) ?_) | (refine VDf.pv 2 rfl rfl (evP_addI wh wh (by omega)) ?_) | (refine VDf.pv 2 rfl rfl wh ?_)
   refine VDf.pe (K := fun d H' => (s.drop k == []) = true ∧ d = .tup [] ∧ H' = HX.upd b (rd s k 91)) (Kp := fun d H' => (s.drop k == []) = false ∧ d = fault k 6 ∧ H' = HX.upd b (rd s k 91)) 7 rfl rfl (EFf.call rfl (need_ok _ k 6 _)) (fun d fr' H' ⟨f1, f2, f3⟩ hfr => ?_) (fun d H' ⟨f1, f2, f3⟩ => ?_)
   · subst f2; subst f3
     refine bad (e := ((k : Nat), 6)) x2 x3 x4 xsub (by rw [hRE, f1, cond_false]) ?_ ?_ ?_
     all_goals exact (hfr _ (noDst rfl)).trans rfl
   subst f2; subst f3
   refine ⟨stb, ?_⟩
   refine VDf.pd rfl ?_
   rw [f1, cond_true] at hRE
   have l2 : (HX.upd b (rd s k 91)) b2 = some (.cells [c0, c1, c2, c3, c4] elT) := by rw [Hp.upd_ne hb2]; exact x2
   have l3 : (HX.upd b (rd s k 91)) b3 = some (.cells [.int .i64 0] 3) := by rw [Hp.upd_ne hb3]; exact x3
   have l4 : (HX.upd b (rd s k 91)) b4 = some (.cells [.int .i64 0] 29) := by rw [Hp.upd_ne hb4]; exact x4
   have lsub : SubH H (HX.upd b (rd s k 91)) := SubH.over xsub gb
   generalize HX.upd b (rd s k 91) = HY at l2 l3 l4 lsub ⊢
   refine AC.seq (AC.seq (AC.reg ?_))
   refine RG.ld (cs := [c0, c1, c2, c3, c4]) (ty := elT) .d rfl l2 rfl ?_
   have hck := Check_ok hG x hfit
   rw [hC] at hck
   refine RG.callP .d rfl hck ?_
   refine go1 ?_
   refine RG.nilS (AC.seq (AC.reg ?_))
   refine go1 ?_
   refine RG.p (d := .bool (!(checkF x == 0))) .d rfl ?_
   cases ce : checkF x == 0
   · rw [ce, cond_false] at hRE
     refine RG.nilS (AC.cond_t rfl (AC.seq (AC.reg ?_)))
     refine go1 ?_
     refine go1 ?_
     refine RG.sto (d := .agg Z5) (cs := [c0, c1, c2, c3, c4]) (ty := elT) .d rfl l2 rfl rfl rfl (by exact Nat.le_refl _) ?_
     refine RG.sto1 .d rfl (by rw [Hp.upd_ne (Ne.symm h23)]; exact l3) rfl rfl ?_
     refine RG.sto1 .d rfl (by rw [Hp.upd_ne (Ne.symm h34), Hp.upd_ne (Ne.symm h24)]; exact l4) rfl rfl ?_
     refine RG.nilS (AC.ret (goodR (t2 := elT) (t3 := 3) (t4 := 29) (x := El0) (a := 0) (e := checkF x) (by rw [hRF, hRE]) rfl rfl rfl ?_ ?_ ?_ el0_le (SubH.over (SubH.over (SubH.over lsub g2) g3) g4)))
     · rw [Hp.upd_ne h24, Hp.upd_ne h23]; exact Hp.upd_same
     · rw [Hp.upd_ne h34]; exact Hp.upd_same
     · exact Hp.upd_same
   · rw [ce, cond_true] at hRE
     refine RG.nilS (AC.cond_f rfl (AC.skip (AC.seq (AC.reg ?_))))
     refine RG.ld (cs := [c0, c1, c2, c3, c4]) (ty := elT) .d rfl l2 rfl ?_
     refine RG.sto (d := .agg [c0, c1, c2, c3, c4]) (cs := [c0, c1, c2, c3, c4]) (ty := elT) .d rfl l2 rfl rfl rfl (by exact Nat.le_refl _) ?_
     refine RG.sto1 .d rfl (by rw [Hp.upd_ne (Ne.symm h23)]; exact l3) rfl rfl ?_
     refine RG.sto1 .d rfl (by rw [Hp.upd_ne (Ne.symm h34), Hp.upd_ne (Ne.symm h24)]; exact l4) rfl rfl ?_
     refine RG.nilS (AC.ret (goodR (t2 := elT) (t3 := 3) (t4 := 29) (x := x) (a := 0) (e := 0) (by rw [hRF, hRE]) rfl rfl rfl ?_ ?_ ?_ (by rw [hC]; exact DLe.refl _) (SubH.over (SubH.over (SubH.over lsub g2) g3) g4)))
     · rw [Hp.upd_ne h24, Hp.upd_ne h23]; exact Hp.upd_same
     · rw [Hp.upd_ne h34]; exact Hp.upd_same
     · exact Hp.upd_same
 · obtain ⟨fn, c, h1, h2, h3, _⟩ := cFn_sound cF49
   exact ⟨fn, h1, by simp [h2], h3⟩
open Go Go.Run Go.RowKit
open Go.Proofs.Tryz (prog)
variable {G : Gl}
open Go Go.Run Go.RowKit
open Go.Proofs.Tryz (prog)
variable {G : Gl}
open Go Go.Run Go.RowKit
open Go.Proofs.Tryz (prog)
variable {G : Gl}
theorem len_bne (a b : Nat) : ((a : Int) != (b : Int)) = !(a == b) := by
 rw [Bool.eq_iff_iff]; simp; omega
open Go Go.Run Go.RowKit
open Go.Proofs.Tryz (prog)
variable {G : Gl}
def W1 : El := .mk 0 [68, 97, 116, 97] [97, 60, 98] false []
theorem back_law (e : El) : ((writeF e).2 = 0 → readF (writeF e).1 = (e, 0, 0)) ∧ ((writeF e).2 ≠ 0 → (writeF e).1 = []) := by
 unfold writeF
 cases h : checkF e == 0
 · refine ⟨fun h2 => ?_, fun _ => rfl⟩
   have : checkF e = 0 := h2
   rw [this] at h; cases h
 · have hc : checkF e = 0 := by simpa using h
   cases h2 : decide ((((docF e).length : Nat) : Int) > 12000)
   · have := of_decide_eq_false h2
     exact ⟨fun _ => read_doc hc (by omega), fun h => absurd rfl h⟩
   · exact ⟨fun h => (by cases h), fun _ => rfl⟩
end Go.Run.Tryz
