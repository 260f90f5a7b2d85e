/- Part 8 of a proof: texts N22 N23 N24 D1 G1 D2. -/
import Derived.Test.YthmjdmianbobbaaGreatDoorWG
namespace Go.Run.Tryz
open Go Go.Run Go.RowKit
open Go.Proofs.Tryz (prog)
variable {G : Gl}
def wLoop (c : CC) : CC := ccIn (ccIn (ccFst (ccSnd (ccSnd c))))
def wSw (c : CC) : CC := ccIn (ccSnd (ccSnd (ccIn (ccSnd (wLoop c)))))
def wElse (c : CC) : CC := ccElse (ccSnd (ccElse (ccSnd (ccElse (ccSnd (ccElse (ccSnd (wSw c))))))))
def wDraw (c : CC) : CC := ccSnd (ccSnd (ccSnd (wElse c)))
def Z5 : List DV := [.int .i64 0, .str [], .str [], .bool false, .nils]
theorem splice_kid {ks : List El} {x : El} {rest : List DV} : spliceL (0 + ((ks.length : Nat) : Int).toNat * 5) (elC x) (elsC ks ++ Z5 ++ rest) = elsC (ks ++ [x]) ++ rest := by
 have h1 : 0 + ((ks.length : Nat) : Int).toNat * 5 = (elsC ks).length := by rw [elsC_length]; simp
 have h2 : (elC x).length = Z5.length := by rw [elC_length]; rfl
 have h3 : elsC ks ++ Z5 ++ rest = elsC ks ++ (Z5 ++ rest) := List.append_assoc _ _ _
 rw [h1, h3, spliceL, List.take_left, ← List.drop_drop, List.drop_left, h2, List.drop_left, elsC_append]
 simp [elsC]
theorem WS.kid {H0 B Hf : Hp} {s : List UInt8} {ty : TypeId} {b be bb j g cap : Nat} {p4 : List DV} {K : DV} {ks : List El} {x : El} {txt : List UInt8} {u : Bool} {rest : List DV} (hb : b ≠ be) (hbe : H0 be = none)
  (hB : BLD ((H0.upd b (Go.Run.Tryz.rd s j ty)).upd be (some (.cells (p4 ++ [K]) elT))) bb u txt B) (hg : B g = none) (hcap : ks.length + 1 ≤ cap) (hlen : (elsC ks ++ Z5 ++ rest).length = cap * 5)
  (hf : Hf = ((B.upd g (some (.cells (elsC ks ++ Z5 ++ rest) elT))).upd g (some (.cells (elsC (ks ++ [x]) ++ rest) elT))).upd be (some (.cells (p4 ++ [.win g 0 (ks.length + 1) cap]) elT))) :
  WS H0 s ty b be bb p4 j (ks ++ [x]) txt Hf := by
 have hg1 := hB.base hg
 have hgb : g ≠ be := fun e => by rw [e, Hp.upd_same] at hg1; cases hg1
 rw [Hp.upd_ne hgb] at hg1
 have h1 := hB.put (o := some (.cells (elsC ks ++ Z5 ++ rest) elT)) hg
 have h2 := h1.upd (k := g) (o' := .cells (elsC (ks ++ [x]) ++ rest) elT) Hp.upd_same
 have h3 := h2.upd (k := be) (o := .cells (p4 ++ [K]) elT) (o' := .cells (p4 ++ [.win g 0 (ks.length + 1) cap]) elT) (by rw [Hp.upd_ne (Ne.symm hgb), Hp.upd_ne (Ne.symm hgb)]; exact Hp.upd_same)
 rw [← hf, Hp.upd_upd, Hp.upd_comm hgb, Hp.upd_upd] at h3
 refine ⟨hb, hbe, .win g 0 (ks.length + 1) cap, _, u, ?_, h3⟩
 have hn : (ks ++ [x]).length = ks.length + 1 := by simp
 have h4 := WST.on (H0 := H0.upd b (Go.Run.Tryz.rd s j ty)) (be := be) (p4 := p4) g cap rest (ks ++ [x]) hg1 hgb (by
  rw [← hlen, List.length_append, List.length_append, List.length_append, elsC_length, elsC_length, hn]
  show _ = ks.length * 5 + 5 + rest.length
  omega) (by rw [hn]; exact hcap)
 rw [hn] at h4
 exact h4
theorem kid_reg {H0 H' : Hp} {s : List UInt8} {ty : TypeId} {b be bb i deep : Nat} {pg : Int} {n t0 : List UInt8} {o0 : Bool} {ks : List El} {txt : List UInt8} {kid : Nat → RES (El × Nat)} {Q : EX → Fr → Hp → Prop}
  (hS : WS H0 s ty b be bb [.int .i64 pg, .str n, .str t0, .bool o0] i ks txt H') (hd : deep ≤ 12) (hl : ks.length ≤ 200)
  (hkid : CALL prog G 53 [.ptr b 0, .int .i64 pg, .int .i64 ((deep + 1 : Nat) : Int)] H' (Kr1 (kid i) (fun v => .agg (elC v.1)) (·.2) s b ty H') (Kp1 (kid i) s b ty H'))
  (hp : ∀ e j fr', kid i = .error e → j ≤ s.length → Q (.panic (fault e.1 e.2)) fr' (H'.upd b (rd s j ty)))
  (hk : ∀ x j H2, kid i = .ok (x, j) → WS H0 s ty b be bb [.int .i64 pg, .str n, .str t0, .bool o0] j (ks ++ [x]) txt H2 → ∀ fr', Agrees fr' [(0, .ptr b 0), (1, .ptr be 0), (2, .int .i64 deep), (7, .ptr bb 0)] → Q .normal fr' H2) :
  AC prog G none F115.N (wDraw F115.c) Q (frOf [(0, .ptr b 0), (1, .ptr be 0), (2, .int .i64 deep), (7, .ptr bb 0)]) H' := by
 obtain ⟨K, A, u, hA, hB⟩ := hS.st
 have hne := hS.hb
 have hvar := hA.var
 have hbev : H' be = some (.cells [.int .i64 pg, .str n, .str t0, .bool o0, K] elT) := hB.look hvar
 refine AC.drawV [11, 13, 14, 16, 19] (by kernel_rfl) ?_
 first|refine VD.z0 0 ?_|refine VD.z1 0 ?_|refine VD.z2 0 ?_|refine VD.z3 0 ?_|refine VD.z4 0 ?_|refine VD.z5 0 ?_
 first|refine VD.z0 1 ?_|refine VD.z1 1 ?_|refine VD.z2 1 ?_|refine VD.z3 1 ?_|refine VD.z4 1 ?_|refine VD.z5 1 ?_
 first|refine VD.z0 2 ?_|refine VD.z1 2 ?_|refine VD.z2 2 ?_|refine VD.z3 2 ?_|refine VD.z4 2 ?_|refine VD.z5 2 ?_
 refine VD.pv 3 rfl rfl (evP_ld (d := K) wh hbev rfl) ?_
 first|refine VD.z0 4 ?_|refine VD.z1 4 ?_|refine VD.z2 4 ?_|refine VD.z3 4 ?_|refine VD.z4 4 ?_|refine VD.z5 4 ?_
 first|refine VD.z0 5 ?_|refine VD.z1 5 ?_|refine VD.z2 5 ?_|refine VD.z3 5 ?_|refine VD.z4 5 ?_|refine VD.z5 5 ?_
 first|refine VD.z0 6 ?_|refine VD.z1 6 ?_|refine VD.z2 6 ?_|refine VD.z3 6 ?_|refine VD.z4 6 ?_|refine VD.z5 6 ?_
 first|refine VD.z0 7 ?_|refine VD.z1 7 ?_|refine VD.z2 7 ?_|refine VD.z3 7 ?_|refine VD.z4 7 ?_|refine VD.z5 7 ?_
 refine VD.pv 8 rfl rfl (evP_ld (d := .int .i64 pg) wh hbev rfl) ?_
 first|refine VD.z0 9 ?_|refine VD.z1 9 ?_|refine VD.z2 9 ?_|refine VD.z3 9 ?_|refine VD.z4 9 ?_|refine VD.z5 9 ?_
 refine VD.pv 10 rfl rfl (evP_addI (a := deep) (b := 1) wh wh (by omega)) ?_
 refine VD.pv 12 rfl rfl (d := .int .i64 ks.length) (show lenD false K = _ from hA.len) ?_
 have bslE : ∀ (fr : Fr) (HH : Hp), EF prog G none F115.N ⟨some 58, none, .bsl 24 1 5 Z5 [(0, 5, (.c (.agg Z5)))]⟩ (fun d H2 => (∃ g, d = .lst Z5 1 5 (some (g, 0))) ∧ H2 = HH) (fun _ _ => False) fr HH :=
  fun fr HH fr1 l Q hs k _ => RG.st (ST.bsl (cs := Z5) rfl fun g hg => RG.drop (SubH.fresh hg) (k _ _ ⟨⟨g, rfl⟩, rfl⟩))
 have hE : ∀ j, ∃ B, BLD ((H0.upd b (rd s j ty)).upd be (some (.cells ([.int .i64 pg, .str n, .str t0, .bool o0] ++ [K]) elT))) bb u txt B ∧ ∀ (fr : Fr) (g0 : Nat), fr 48 = K → fr 58 = .lst Z5 1 5 (some (g0, 0)) →
   EF prog G none F115.N ⟨some 59, none, .app 24 5 72 (.t 48) (.t 58)⟩ (fun d H3 => ∃ g cap rest, d = .win g 0 (ks.length + 1) cap ∧ ks.length + 1 ≤ cap ∧ (elsC ks ++ Z5 ++ rest).length = cap * 5 ∧ B g = none ∧ H3 = B.upd g (some (.cells (elsC ks ++ Z5 ++ rest) elT))) (fun _ _ => False) fr (H'.upd b (rd s j ty)) := by
  intro j
  have hb0 : (H0.upd b (rd s i ty)) b = some (.cells [.str s, .int .i64 i] ty) := Hp.upd_same
  have hA2 := hA.upd (o' := .cells [.str s, .int .i64 j] ty) hS.be0 hb0
  rw [Hp.upd_upd] at hA2
  have hB2 := hB.upd (k := b) (o' := .cells [.str s, .int .i64 j] ty) (hA.sub hS.be0 b _ hb0)
  have hrd : rd s j ty = some (.cells [.str s, .int .i64 j] ty) := rfl
  rw [← hrd] at hA2 hB2
  generalize A.upd b (rd s j ty) = A2 at hA2 hB2
  generalize H'.upd b (rd s j ty) = HH at hB2 ⊢
  clear hbev hvar hB hA
  cases hA2 with
  | nil =>
    refine ⟨HH, hB2, fun fr g0 h48 h58 fr1 l Q hs k _ => RG.st (ST.app_w0 ((hs 48 (by decide)).trans h48) (ys := Z5) (m := 1) (by show srcD _ 5 (fr1 58) = _; rw [hs 58 (by decide), h58]; rfl) (by omega) (by decide) (fun g cap rest h1 h2 h3 => k _ _ ⟨g, cap, rest, rfl, h2, h3, h1, rfl⟩))⟩
  | on g1 cap1 rest1 _ a1 a2 a3 a4 =>
    have hg1 : HH g1 = some (.cells (elsC ks ++ rest1) elT) := hB2.look Hp.upd_same
    have hB3 := hB2.rem (k := g1) Hp.upd_same
    have hXX : (((H0.upd b (rd s j ty)).upd be (some (.cells ([.int .i64 pg, .str n, .str t0, .bool o0] ++ [.win g1 0 ks.length cap1]) elT))).upd g1 (some (.cells (elsC ks ++ rest1) elT))).upd g1 none = (H0.upd b (rd s j ty)).upd be (some (.cells ([.int .i64 pg, .str n, .str t0, .bool o0] ++ [.win g1 0 ks.length cap1]) elT)) := by
     rw [Hp.upd_upd]
     exact Hp.upd_id (by rw [Hp.upd_ne a2]; exact a1)
    rw [hXX] at hB3
    refine ⟨_, hB3, fun fr g0 h48 h58 fr1 l Q hs k _ => RG.st (ST.app_w ((hs 48 (by decide)).trans h48) hg1 (elsC_length ks) a3 (ys := Z5) (m := 1) (by show srcD _ 5 (fr1 58) = _; rw [hs 58 (by decide), h58]; rfl) (by omega) (fun g cap rest h1 h2 h3 => k _ _ ⟨g, cap, rest, rfl, h2, h3, ?_, rfl⟩))⟩
    rcases h1 with rfl | h1
    · exact Hp.upd_same
    · by_cases e : g = g1
      · rw [e]; exact Hp.upd_same
      · rw [Hp.upd_ne e]; exact h1
 refine VD.pe2 11 13 (by decide) rfl rfl rfl (EF.call rfl hkid) (bslE _ _) (fun d fr' H2 ⟨e, j, k1, k2, k3, k4⟩ => by rw [k2, k4]; exact hp e j fr' k1 k3) (fun _ _ _ h => h.elim) (fun d H2 ⟨⟨x, j⟩, e1, e2, e3⟩ => ⟨?_, ?_⟩) (fun d H2 ⟨⟨g0, e1⟩, e2⟩ => ⟨?_, ?_⟩)
 · subst e2; subst e3
   exact (by (repeat (refine stabAll_cons rfl (by first | exact Stab.ld rfl hbb rfl rfl | exact Stab.of rfl rfl | exact Stab.of (d := .int .i64 ks.length) hA.len rfl | exact Stab.of (evP_addI (a := deep) (b := 1) wh wh (by omega)) rfl) ?_)); exact stabAll_nil)
 · subst e2; subst e3
   refine VD.pe 13 rfl rfl (bslE _ _) (fun _ _ _ h => h.elim) (fun d H2 ⟨⟨g0, a1⟩, a2⟩ => ⟨?_, ?_⟩)
   · subst a1; subst a2
     exact (by (repeat (refine stabAll_cons rfl (by first | exact Stab.ld rfl hbb rfl rfl | exact Stab.of rfl rfl | exact Stab.of (d := .int .i64 ks.length) hA.len rfl | exact Stab.of (evP_addI (a := deep) (b := 1) wh wh (by omega)) rfl) ?_)); exact stabAll_nil)
   · subst a1; subst a2
     obtain ⟨B, hBB, hE14'⟩ := hE j
     have hE14 := fun fr h1 h2 => hE14' fr g0 h1 h2
     refine VD.pe 14 rfl rfl (hE14 _ rfl rfl) (fun _ _ _ h => h.elim) (fun d H3 ⟨g, cap, rest, f1, f2, f3, f4, f5⟩ => ⟨stabAll_nil, ?_⟩)
     subst f1
     have hgB := hBB.base f4
     have hgbe : g ≠ be := fun e => by rw [e, Hp.upd_same] at hgB; cases hgB
     have hH3g : H3 g = some (.cells (elsC ks ++ Z5 ++ rest) elT) := by rw [f5]; exact Hp.upd_same
     have hH3be : H3 be = some (.cells [.int .i64 pg, .str n, .str t0, .bool o0, K] elT) := by rw [f5, Hp.upd_ne (Ne.symm hgbe)]; exact hBB.look Hp.upd_same
     have hidx : iadrD 5 (.win g 0 (ks.length + 1) cap) (.int .i64 ks.length) = some (.ptr g (0 + ((ks.length : Nat) : Int).toNat * 5)) := if_pos (by omega)
     refine VD.pv 15 rfl rfl (d := .ptr g (0 + ((ks.length : Nat) : Int).toNat * 5)) hidx ?_
     refine VD.pv 17 rfl rfl wh ?_
     refine VD.pv 18 rfl rfl wh ?_
     have hle : 0 + ((ks.length : Nat) : Int).toNat * 5 + 5 ≤ (elsC ks ++ Z5 ++ rest).length := by
      rw [f3, Int.toNat_natCast]; omega
     have e16 : ∀ (fr : Fr) (HH : Hp), HH g = some (.cells (elsC ks ++ Z5 ++ rest) elT) → fr 60 = .ptr g (0 + ((ks.length : Nat) : Int).toNat * 5) → fr 56 = .agg (elC x) →
       EF prog G none F115.N ⟨none, none, .st 5 (.t 60) (.t 56)⟩ (fun d H4 => d = .junk ∧ H4 = HH.upd g (some (.cells (elsC (ks ++ [x]) ++ rest) elT))) (fun _ _ => False) fr HH :=
      fun fr HH h1 h2 h3 fr1 l Q hs k _ => RG.sto .d ((hs 60 (by decide)).trans h2) h1 ((hs 56 (by decide)).trans h3) rfl (elC_length x) hle (k _ _ ⟨rfl, by rw [splice_kid]⟩)
     have e19 : ∀ (fr : Fr) (HH : Hp), HH be = some (.cells [.int .i64 pg, .str n, .str t0, .bool o0, K] elT) → fr 62 = .ptr be 4 → fr 59 = .win g 0 (ks.length + 1) cap →
       EF prog G none F115.N ⟨none, none, .st 1 (.t 62) (.t 59)⟩ (fun d H4 => d = .junk ∧ H4 = HH.upd be (some (.cells ([.int .i64 pg, .str n, .str t0, .bool o0] ++ [.win g 0 (ks.length + 1) cap]) elT))) (fun _ _ => False) fr HH :=
      fun fr HH h1 h2 h3 fr1 l Q hs k _ => RG.sto .d ((hs 62 (by decide)).trans h2) h1 ((hs 59 (by decide)).trans h3) rfl rfl (by exact Nat.le_refl _) (k _ _ ⟨rfl, rfl⟩)
     refine VD.pe2 16 19 (by decide) rfl rfl rfl (e16 _ _ hH3g rfl rfl) (e19 _ _ hH3be rfl rfl) (fun _ _ _ h => h.elim) (fun _ _ _ h => h.elim) (fun d H4 ⟨_, f6⟩ => ⟨?_, ?_⟩) (fun d H4 ⟨_, f6⟩ => ⟨?_, ?_⟩)
     · repeat (refine stabAll_cons rfl (by first | exact Stab.of rfl rfl | exact Stab.of hidx rfl) ?_)
       exact stabAll_nil
     · refine VD.pe 19 rfl rfl (e19 _ _ (by rw [f6, Hp.upd_ne (Ne.symm hgbe)]; exact hH3be) rfl rfl) (fun _ _ _ h => h.elim) (fun d H5 ⟨_, f7⟩ => ⟨?_, ?_⟩)
       · repeat (refine stabAll_cons rfl (by first | exact Stab.of rfl rfl | exact Stab.of hidx rfl) ?_)
         exact stabAll_nil
       · refine VD.pd rfl (hk x j H5 e1 (WS.kid hne hS.hbe hBB f4 f2 f3 ?_) _ ⟨rfl, rfl, rfl, rfl, trivial⟩)
         rw [f7, f6, f5]
     · repeat (refine stabAll_cons rfl (by first | exact Stab.of rfl rfl | exact Stab.of hidx rfl) ?_)
       exact stabAll_nil
     · refine VD.pe 16 rfl rfl (e16 _ _ (by rw [f6, Hp.upd_ne hgbe]; exact hH3g) rfl rfl) (fun _ _ _ h => h.elim) (fun d H5 ⟨_, f7⟩ => ⟨?_, ?_⟩)
       · repeat (refine stabAll_cons rfl (by first | exact Stab.of rfl rfl | exact Stab.of hidx rfl) ?_)
         exact stabAll_nil
       · refine VD.pd rfl (hk x j H5 e1 (WS.kid hne hS.hbe hBB f4 f2 f3 ?_) _ ⟨rfl, rfl, rfl, rfl, trivial⟩)
         rw [f7, f6, f5]
         exact Hp.upd_comm (Ne.symm hgbe)
 · subst e1; subst e2
   exact (by (repeat (refine stabAll_cons rfl (by first | exact Stab.ld rfl hbb rfl rfl | exact Stab.of rfl rfl | exact Stab.of (d := .int .i64 ks.length) hA.len rfl | exact Stab.of (evP_addI (a := deep) (b := 1) wh wh (by omega)) rfl) ?_)); exact stabAll_nil)
 · subst e1; subst e2
   refine VD.pe 11 rfl rfl (EF.call rfl hkid) (fun d fr' H2 ⟨e, j, k1, k2, k3, k4⟩ => by rw [k2, k4]; exact hp e j fr' k1 k3) (fun d H2 ⟨⟨x, j⟩, e1, e2, e3⟩ => ⟨?_, ?_⟩)
   · subst e2; subst e3
     exact (by (repeat (refine stabAll_cons rfl (by first | exact Stab.ld rfl hbb rfl rfl | exact Stab.of rfl rfl | exact Stab.of (d := .int .i64 ks.length) hA.len rfl | exact Stab.of (evP_addI (a := deep) (b := 1) wh wh (by omega)) rfl) ?_)); exact stabAll_nil)
   · subst e2; subst e3
     obtain ⟨B, hBB, hE14'⟩ := hE j
     have hE14 := fun fr h1 h2 => hE14' fr g0 h1 h2
     refine VD.pe 14 rfl rfl (hE14 _ rfl rfl) (fun _ _ _ h => h.elim) (fun d H3 ⟨g, cap, rest, f1, f2, f3, f4, f5⟩ => ⟨stabAll_nil, ?_⟩)
     subst f1
     have hgB := hBB.base f4
     have hgbe : g ≠ be := fun e => by rw [e, Hp.upd_same] at hgB; cases hgB
     have hH3g : H3 g = some (.cells (elsC ks ++ Z5 ++ rest) elT) := by rw [f5]; exact Hp.upd_same
     have hH3be : H3 be = some (.cells [.int .i64 pg, .str n, .str t0, .bool o0, K] elT) := by rw [f5, Hp.upd_ne (Ne.symm hgbe)]; exact hBB.look Hp.upd_same
     have hidx : iadrD 5 (.win g 0 (ks.length + 1) cap) (.int .i64 ks.length) = some (.ptr g (0 + ((ks.length : Nat) : Int).toNat * 5)) := if_pos (by omega)
     refine VD.pv 15 rfl rfl (d := .ptr g (0 + ((ks.length : Nat) : Int).toNat * 5)) hidx ?_
     refine VD.pv 17 rfl rfl wh ?_
     refine VD.pv 18 rfl rfl wh ?_
     have hle : 0 + ((ks.length : Nat) : Int).toNat * 5 + 5 ≤ (elsC ks ++ Z5 ++ rest).length := by
      rw [f3, Int.toNat_natCast]; omega
     have e16 : ∀ (fr : Fr) (HH : Hp), HH g = some (.cells (elsC ks ++ Z5 ++ rest) elT) → fr 60 = .ptr g (0 + ((ks.length : Nat) : Int).toNat * 5) → fr 56 = .agg (elC x) →
       EF prog G none F115.N ⟨none, none, .st 5 (.t 60) (.t 56)⟩ (fun d H4 => d = .junk ∧ H4 = HH.upd g (some (.cells (elsC (ks ++ [x]) ++ rest) elT))) (fun _ _ => False) fr HH :=
      fun fr HH h1 h2 h3 fr1 l Q hs k _ => RG.sto .d ((hs 60 (by decide)).trans h2) h1 ((hs 56 (by decide)).trans h3) rfl (elC_length x) hle (k _ _ ⟨rfl, by rw [splice_kid]⟩)
     have e19 : ∀ (fr : Fr) (HH : Hp), HH be = some (.cells [.int .i64 pg, .str n, .str t0, .bool o0, K] elT) → fr 62 = .ptr be 4 → fr 59 = .win g 0 (ks.length + 1) cap →
       EF prog G none F115.N ⟨none, none, .st 1 (.t 62) (.t 59)⟩ (fun d H4 => d = .junk ∧ H4 = HH.upd be (some (.cells ([.int .i64 pg, .str n, .str t0, .bool o0] ++ [.win g 0 (ks.length + 1) cap]) elT))) (fun _ _ => False) fr HH :=
      fun fr HH h1 h2 h3 fr1 l Q hs k _ => RG.sto .d ((hs 62 (by decide)).trans h2) h1 ((hs 59 (by decide)).trans h3) rfl rfl (by exact Nat.le_refl _) (k _ _ ⟨rfl, rfl⟩)
     refine VD.pe2 16 19 (by decide) rfl rfl rfl (e16 _ _ hH3g rfl rfl) (e19 _ _ hH3be rfl rfl) (fun _ _ _ h => h.elim) (fun _ _ _ h => h.elim) (fun d H4 ⟨_, f6⟩ => ⟨?_, ?_⟩) (fun d H4 ⟨_, f6⟩ => ⟨?_, ?_⟩)
     · repeat (refine stabAll_cons rfl (by first | exact Stab.of rfl rfl | exact Stab.of hidx rfl) ?_)
       exact stabAll_nil
     · refine VD.pe 19 rfl rfl (e19 _ _ (by rw [f6, Hp.upd_ne (Ne.symm hgbe)]; exact hH3be) rfl rfl) (fun _ _ _ h => h.elim) (fun d H5 ⟨_, f7⟩ => ⟨?_, ?_⟩)
       · repeat (refine stabAll_cons rfl (by first | exact Stab.of rfl rfl | exact Stab.of hidx rfl) ?_)
         exact stabAll_nil
       · refine VD.pd rfl (hk x j H5 e1 (WS.kid hne hS.hbe hBB f4 f2 f3 ?_) _ ⟨rfl, rfl, rfl, rfl, trivial⟩)
         rw [f7, f6, f5]
     · repeat (refine stabAll_cons rfl (by first | exact Stab.of rfl rfl | exact Stab.of hidx rfl) ?_)
       exact stabAll_nil
     · refine VD.pe 16 rfl rfl (e16 _ _ (by rw [f6, Hp.upd_ne hgbe]; exact hH3g) rfl rfl) (fun _ _ _ h => h.elim) (fun d H5 ⟨_, f7⟩ => ⟨?_, ?_⟩)
       · repeat (refine stabAll_cons rfl (by first | exact Stab.of rfl rfl | exact Stab.of hidx rfl) ?_)
         exact stabAll_nil
       · refine VD.pd rfl (hk x j H5 e1 (WS.kid hne hS.hbe hBB f4 f2 f3 ?_) _ ⟨rfl, rfl, rfl, rfl, trivial⟩)
         rw [f7, f6, f5]
         exact Hp.upd_comm (Ne.symm hgbe)
theorem encode_len (n : Int) : (Utf8.encode n).data.toList.length ≤ 4 := by
 unfold Utf8.encode
 dsimp only
 generalize (if Utf8.valid n then n.toNat else Utf8.runeError) = c
 split
 · simp
 · split
   · simp
   · split <;> simp
theorem entityF_len {s : List UInt8} {i : Nat} {x : List UInt8} {j : Nat} (h : entityF s i = .ok (x, j)) : x.length ≤ 4 := by
 unfold entityF at h
 cases hf : ents.find? (fun p => p.1.isPrefixOf (s.drop i)) with
 | some p =>
   rw [hf] at h
   simp only [Except.ok.injEq, Prod.mk.injEq] at h
   obtain ⟨rfl, rfl⟩ := h
   have h2 := List.mem_of_find?_eq_some hf
   simp only [ents, List.mem_cons, List.not_mem_nil, or_false] at h2
   rcases h2 with rfl | rfl | rfl | rfl | rfl <;> simp
 | none =>
   rw [hf] at h
   dsimp only at h
   obtain ⟨e1, h⟩ := bif_ok h
   obtain ⟨e2, h⟩ := bif_ok h
   obtain ⟨_, h⟩ := bif_ok h
   simp only [Except.ok.injEq, Prod.mk.injEq] at h
   obtain ⟨rfl, _⟩ := h
   exact encode_len _
theorem uptoF_len {s t : List UInt8} {i : Nat} {x : List UInt8} {j : Nat} (h : uptoF s t i = .ok (x, j)) : x.length ≤ j - i := by
 unfold uptoF at h
 cases hc : cutO t (s.drop i) with
 | none => rw [hc] at h; cases h
 | some p =>
   rw [hc] at h
   simp only [Except.ok.injEq, Prod.mk.injEq] at h
   obtain ⟨rfl, rfl⟩ := h
   omega
theorem upto_ok' (hG : GOK G) {b : Nat} {s t : List UInt8} {i : Nat} {ty : TypeId} {H : Hp} (hb : H b = rd s i ty) (hi : i ≤ s.length) (hs : s.length + t.length < 4294967281) :
  CALL prog G 51 [.ptr b 0, .str t] H (Kr1 (uptoF s t i) (fun v => .str v.1) (·.2) s b ty H) (Kp1 (uptoF s t i) s b ty H) := by
 refine (upto_ok hG.ml hb hi hs).mono (fun d H' ⟨x, y, h1, h2, h3⟩ => ?_) (fun d H' ⟨h1, h2, h3⟩ => ?_)
 · exact ⟨(x, i + (x.length + t.length)), by rw [uptoF, h1], h2, h3⟩
 · exact ⟨((s.length : Nat), 1), i, by rw [uptoF, h1], h2, hi, by rw [h3]; exact (Hp.upd_id hb).symm⟩
def hdL : List UInt8 → Bool
 | [] => false
 | c :: _ => isLetter c
def KD (ks : List El) (K : DV) : Prop := (ks = [] ∧ K = .nils) ∨ K = .lst (elsC ks) ks.length 5 none
theorem within_call (hG : GOK G) {H : Hp} {s : List UInt8} {ty : TypeId} {b be i deep : Nat} {pg : Int} {n t0 : List UInt8} {o0 : Bool} {kid : Nat → RES (El × Nat)} {more : Bool}
  (hb : H b = rd s i ty) (hbe : H be = some (.cells [.int .i64 pg, .str n, .str t0, .bool o0, .nils] elT)) (hne : b ≠ be) (hi : i ≤ s.length) (hs : s.length ≤ 1000000) (hd : deep ≤ 12) (hm : more = decide (deep < 12))
  (hprog : ∀ i x j, i ≤ s.length → kid i = .ok (x, j) → i < j ∧ j ≤ s.length ∧ fits x)
  (hkid : deep < 12 → ∀ i' HH, HH b = rd s i' ty → i' ≤ s.length → CALL prog G 53 [.ptr b 0, .int .i64 pg, .int .i64 ((deep + 1 : Nat) : Int)] HH (Kr1 (kid i') (fun v => .agg (elC v.1)) (·.2) s b ty HH) (Kp1 (kid i') s b ty HH)) :
  CALL prog G 115 [.ptr b 0, .ptr be 0, .int .i64 deep] H
   (fun d H' => ∃ t ks j K, withinF s kid more (s.length + 1) i [] [] = .ok (t, ks, j) ∧ d = .str t ∧ KD ks K ∧ H' = ((H.upd be none).upd b (rd s j ty)).upd be (some (.cells [.int .i64 pg, .str n, .str t0, .bool o0, K] elT)))
   (Kp1 (withinF s kid more (s.length + 1) i [] []) s b ty (H.upd be none)) := by
 generalize hRR : withinF s kid more (s.length + 1) i [] [] = R
 generalize hH0 : H.upd be none = H0
 have hbe0 : H0 be = none := by rw [← hH0]; exact Hp.upd_same
 have hb0 : H0 b = rd s i ty := by rw [← hH0, Hp.upd_ne hne]; exact hb
 refine CALL.of cF115 (Nat.le_of_ble_eq_true rfl) ?_
 refine AC.seq (AC.reg ?_)
 refine go ?_
 refine RG.nilS (AC.seq (AC.reg ?_))
 refine RG.alloc .d fun bb hbb => ?_
 have hW0 : WS H0 s ty b be bb [.int .i64 pg, .str n, .str t0, .bool o0] i [] [] (H.upd bb (some (.cells [.nilp, .nils] 67))) := by
  refine ⟨hne, hbe0, .nils, H, false, ?_, .mt false hbb⟩
  have : (H0.upd b (rd s i ty)).upd be (some (.cells ([.int .i64 pg, .str n, .str t0, .bool o0] ++ [.nils]) elT)) = H := by
   rw [Hp.upd_id hb0, ← hH0, Hp.upd_upd]
   exact Hp.upd_id hbe
  have h2 := WST.nil (H0 := H0.upd b (rd s i ty)) (be := be) (p4 := [.int .i64 pg, .str n, .str t0, .bool o0])
  rw [this] at h2
  exact h2
 have bad : ∀ {e : Int × Int} {j : Nat} {ks' : List El} {txt' : List UInt8} {HH : Hp}, R = .error e → j ≤ s.length → WS H0 s ty b be bb [.int .i64 pg, .str n, .str t0, .bool o0] j ks' txt' HH → ∃ H', SubH H' HH ∧ Kp1 R s b ty H0 (fault e.1 e.2) H' :=
  fun {e j _ _ _} h1 h2 h3 => ⟨_, h3.sub, e, j, h1, rfl, h2, rfl⟩
 refine RG.nilS (AC.seq ?_)
 refine AC.bloopH (α := Nat × Nat × List UInt8 × List El) (β := Nat × List UInt8 × List El) (fun a => a.1) (fun _ => [(0, .ptr b 0), (1, .ptr be 0), (2, .int .i64 deep), (7, .ptr bb 0)])
  (fun a H' => WS H0 s ty b be bb [.int .i64 pg, .str n, .str t0, .bool o0] a.2.1 a.2.2.2 a.2.2.1 H' ∧ withinF s kid more a.1 a.2.1 a.2.2.1 a.2.2.2 = R ∧ a.2.1 ≤ s.length ∧ s.length < a.2.1 + a.1 ∧ a.2.2.1.length ≤ 4 * a.2.1 ∧ a.2.2.2.length ≤ 200)
  (fun _ => [(7, .ptr bb 0)]) (fun a H' => WS H0 s ty b be bb [.int .i64 pg, .str n, .str t0, .bool o0] a.1 a.2.2 a.2.1 H' ∧ R = .ok (a.2.1, a.2.2, a.1) ∧ a.2.1.length ≤ 4000000) ?_ ?_ (s.length + 1, i, [], []) _ ⟨hW0, hRR, hi, by dsimp only; omega, by simp, by simp⟩ ⟨rfl, rfl, rfl, rfl, trivial⟩
 · rintro ⟨j, txt, ks⟩ He fr ⟨hS, hR, hl⟩ hfr
   dsimp only at hS hR hl
   obtain ⟨K, A, u, h1, h2⟩ := hS.st
   refine AC.to _ hfr (AC.seq (AC.reg ?_))
   refine RG.callR .d rfl (String_ok h2 (by omega)) ?_
   refine go ?_
   refine RG.nilS (AC.ret ?_)
   cases h1 with
   | nil => exact fin rfl ⟨txt, [], j, .nils, hR, rfl, .inl ⟨rfl, rfl⟩, rfl⟩
   | on g cap rest _ g1 g2 g3 g4 =>
     have hcv := Cv.freeze (H := ((H0.upd b (rd s j ty)).upd be (some (.cells ([.int .i64 pg, .str n, .str t0, .bool o0] ++ [.win g 0 ks.length cap]) elT))).upd g (some (.cells (elsC ks ++ rest) elT))) (be := be) (g := g) (n := ks.length) (cap := cap) (sz := 5) (k := 4)
      (d := .str txt) (by rw [Hp.upd_ne (Ne.symm g2)]; exact Hp.upd_same) rfl Hp.upd_same (elsC_length ks) g2
     rw [Hp.upd_upd, Hp.upd_id (show ((H0.upd b (rd s j ty)).upd be (some (.cells ([.int .i64 pg, .str n, .str t0, .bool o0] ++ [.win g 0 ks.length cap]) elT))) g = none by rw [Hp.upd_ne g2]; exact g1), Hp.upd_upd] at hcv
     exact ⟨[.str txt], .str txt, _, rfl, hcv, txt, ks, j, _, hR, rfl, .inr rfl, rfl⟩
 · rintro ⟨f, i, txt, ks⟩ H' ⟨hS, hR, hi, hf, htl, hkl⟩ ih ex
   dsimp only at hS hR hi hf htl hkl ih
   obtain ⟨f, rfl⟩ : ∃ f', f = f' + 1 := ⟨f - 1, by omega⟩
   rw [withinF] at hR
   have again : ∀ {j : Nat} {txt' : List UInt8} {ks' : List El} {H2 : Hp}, WS H0 s ty b be bb [.int .i64 pg, .str n, .str t0, .bool o0] j ks' txt' H2 → withinF s kid more f j txt' ks' = R → i < j → j ≤ s.length → txt'.length ≤ 4 * j → ks'.length ≤ 200 →
     ∀ fr, Agrees fr [(0, .ptr b 0), (1, .ptr be 0), (2, .int .i64 deep), (7, .ptr bb 0)] → _ :=
    fun {j txt' ks' H2} h1 h2 h3 h4 h5 h6 fr hfr => ih (f, j, txt', ks') H2 ⟨h1, h2, h4, by dsimp only; omega, h5, h6⟩ (by dsimp only; omega) fr hfr
   refine AC.seq (AC.seq (AC.reg ?_))
   refine go1 ?_
   refine RG.callR .d rfl (has_ok (t := [60, 47]) hS.rd hi (by simp; omega)) ?_
   cases e1 : List.isPrefixOf [60, 47] (s.drop i)
   case true =>
    rw [e1, cond_true] at hR
    have hpl := prefix_le e1 (by simp)
    simp only [List.length_cons, List.length_nil] at hpl
    refine go ?_
    refine RG.nilS (AC.cond_f rfl (AC.exit ?_))
    exact ex (i + 2, txt, ks) _ _ ⟨hS.upd (i + 2), hR.symm, by dsimp only; omega⟩ ⟨rfl, trivial⟩
   rw [e1, cond_false] at hR
   rw [cond_false, Hp.upd_id hS.rd]
   refine go ?_
   refine RG.nilS (AC.cond_t rfl (AC.skip (AC.block (AC.seq (AC.drawV [1] rfl ?_)))))
   have hrd := hS.rd
   first|refine VD.z0 0 ?_|refine VD.z1 0 ?_|refine VD.z2 0 ?_|refine VD.z3 0 ?_|refine VD.z4 0 ?_|refine VD.z5 0 ?_
   first|refine VD.z0 2 ?_|refine VD.z1 2 ?_|refine VD.z2 2 ?_|refine VD.z3 2 ?_|refine VD.z4 2 ?_|refine VD.z5 2 ?_
   first|refine VD.z0 3 ?_|refine VD.z1 3 ?_|refine VD.z2 3 ?_|refine VD.z3 3 ?_|refine VD.z4 3 ?_|refine VD.z5 3 ?_
   first|refine VD.z0 4 ?_|refine VD.z1 4 ?_|refine VD.z2 4 ?_|refine VD.z3 4 ?_|refine VD.z4 4 ?_|refine VD.z5 4 ?_
   first|refine VD.z0 5 ?_|refine VD.z1 5 ?_|refine VD.z2 5 ?_|refine VD.z3 5 ?_|refine VD.z4 5 ?_|refine VD.z5 5 ?_
   refine VD.pe (K := fun d H2 => d = .str (s.drop i) ∧ H2 = H') (Kp := fun _ _ => False) 1 rfl rfl (EF.call rfl (left_ok hrd hi)) (fun _ _ _ h => h.elim) (fun d H2 ⟨f1, f2⟩ => ?_)
   subst f1; subst f2
   refine ⟨stb, ?_⟩
   first|refine VD.z0 6 ?_|refine VD.z1 6 ?_|refine VD.z2 6 ?_|refine VD.z3 6 ?_|refine VD.z4 6 ?_|refine VD.z5 6 ?_
   first|refine VD.z0 7 ?_|refine VD.z1 7 ?_|refine VD.z2 7 ?_|refine VD.z3 7 ?_|refine VD.z4 7 ?_|refine VD.z5 7 ?_
   refine VD.pd rfl ?_
   refine AC.to [(0, .ptr b 0), (1, .ptr be 0), (2, .int .i64 deep), (7, .ptr bb 0), (8, .str (s.drop i)), (9, .int .i64 i)] ⟨rfl, rfl, rfl, rfl, rfl, rfl, trivial⟩ (AC.seq (AC.reg ?_))
   refine go ?_
   refine RG.call .d rfl (need_ok (!(s.drop i == [])) i 1 _) (fun d H3 ⟨g1, g2, g3⟩ => ?_) (fun d H3 ⟨g1, g2, g3⟩ => ?_)
   rotate_left
   · subst g2; subst g3
     have hnil : s.drop i = [] := by simpa using g1
     rw [hnil] at hR
     exact bad (e := (i, 1)) hR.symm hi hS
   subst g2; subst g3
   cases hd : s.drop i with
   | nil => rw [hd] at g1; cases g1
   | cons c l =>
   have hlt : i < s.length := by
    have := congrArg List.length hd
    simp only [List.length_drop, List.length_cons] at this
    omega
   rw [hd] at hR
   dsimp only at hR
   refine RG.nilS (AC.block (AC.seq (AC.reg ?_)))
   refine go1 ?_
   refine RG.at (b := c) .d wh wh (by omega) rfl ?_
   refine RG.p (d := .bool (c == 38)) .d (by show some (DV.bool ((c.toNat : Int) == 38)) = _; rw [show ((c.toNat : Int) == 38) = (c == 38) from u8eq c 38]) ?_
   refine go ?_
   cases e2 : c == 38
   case true =>
    rw [e2, cond_true] at hR
    refine RG.nilS (AC.cond_t rfl (AC.reg ?_))
    refine go1 ?_
    refine RG.call .d rfl (entity_ok hS.rd hi (by omega)) (fun d H3 ⟨⟨x, j⟩, h1, h2, h3⟩ => ?_) (fun d H3 ⟨e, j, h1, h2, h3, h4⟩ => ?_)
    · subst h2; subst h3
      rw [h1] at hR
      have hp := entityF_prog h1
      have hxl := entityF_len h1
      have hS2 := hS.upd j
      obtain ⟨A, u, hB, hBk⟩ := hS2.bld
      refine RG.call .d rfl (WriteString_ok (s := x) hB (by omega)) (fun d H4 ⟨_, hB4⟩ => ?_) (fun _ _ h => h.elim)
      exact RG.nil (again (hBk _ _ _ hB4) hR hp.1 hp.2 (by rw [List.length_append]; omega) hkl _ ⟨rfl, rfl, rfl, rfl, trivial⟩)
    · subst h2; subst h4
      rw [h1] at hR
      exact bad hR.symm h3 (hS.upd j)
   rw [e2, cond_false] at hR
   refine RG.nilS (AC.cond_f rfl (AC.seq (AC.reg ?_)))
   refine go1 ?_
   refine RG.callR .d rfl (has_ok (t := rawM) hS.rd hi (by simp [rawM]; omega)) ?_
   rw [hd]
   cases e3 : List.isPrefixOf rawM (c :: l)
   case true =>
    rw [e3, cond_true] at hR
    have hpl := prefix_le (t := rawM) (s := s) (i := i) (by rw [hd]; exact e3) (by simp [rawM])
    have hr9 : rawM.length = 9 := rfl
    rw [hr9] at hpl
    refine go ?_
    refine RG.nilS (AC.cond_t rfl (AC.reg ?_))
    have hS2 := hS.upd (i + 9)
    refine go1 ?_
    refine RG.call .d rfl (upto_ok' hG (t := rawEnd) hS2.rd hpl (by simp [rawEnd]; omega)) (fun d H3 ⟨⟨x, j⟩, h1, h2, h3⟩ => ?_) (fun d H3 ⟨e, j, h1, h2, h3, h4⟩ => ?_)
    · subst h2; subst h3
      rw [h1] at hR
      have hp := uptoF_prog h1 hpl
      have hxl := uptoF_len h1
      have hS3 := hS2.upd j
      obtain ⟨A, u, hB, hBk⟩ := hS3.bld
      refine RG.call .d rfl (WriteString_ok (s := x) hB (by omega)) (fun d H4 ⟨_, hB4⟩ => ?_) (fun _ _ h => h.elim)
      exact RG.nil (again (hBk _ _ _ hB4) hR (by omega) hp.2 (by rw [List.length_append]; omega) hkl _ ⟨rfl, rfl, rfl, rfl, trivial⟩)
    · subst h2; subst h4
      rw [h1] at hR
      exact bad hR.symm h3 (hS2.upd j)
   rw [e3, cond_false] at hR
   rw [cond_false, Hp.upd_id hS.rd]
   refine go ?_
   refine RG.nilS (AC.cond_f rfl (AC.seq (AC.reg ?_)))
   refine go1 ?_
   refine RG.callR .d rfl (has_ok (t := remM) hS.rd hi (by simp [remM]; omega)) ?_
   rw [hd]
   cases e4 : List.isPrefixOf remM (c :: l)
   case true =>
    rw [e4, cond_true] at hR
    have hpl := prefix_le (t := remM) (s := s) (i := i) (by rw [hd]; exact e4) (by simp [remM])
    have hr9 : remM.length = 4 := rfl
    rw [hr9] at hpl
    refine go ?_
    refine RG.nilS (AC.cond_t rfl (AC.reg ?_))
    have hS2 := hS.upd (i + 4)
    refine go1 ?_
    refine RG.call .d rfl (upto_ok' hG (t := remEnd) hS2.rd hpl (by simp [remEnd]; omega)) (fun d H3 ⟨⟨x, j⟩, h1, h2, h3⟩ => ?_) (fun d H3 ⟨e, j, h1, h2, h3, h4⟩ => ?_)
    · subst h2; subst h3
      rw [h1] at hR
      have hp := uptoF_prog h1 hpl
      exact RG.nil (again (hS2.upd j) hR (by omega) hp.2 (by omega) hkl _ ⟨rfl, rfl, rfl, rfl, trivial⟩)
    · subst h2; subst h4
      rw [h1] at hR
      exact bad hR.symm h3 (hS2.upd j)
   rw [e4, cond_false] at hR
   rw [cond_false, Hp.upd_id hS.rd]
   refine go ?_
   refine RG.nilS (AC.cond_f rfl (AC.seq (AC.reg ?_)))
   refine go1 ?_
   refine RG.at (b := c) .d wh wh (by omega) rfl ?_
   refine RG.p (d := .bool (!(c == 60))) .d (by show some (DV.bool ((c.toNat : Int) != 60)) = _; rw [bne, show ((c.toNat : Int) == 60) = (c == 60) from u8eq c 60]) ?_
   refine go ?_
   cases e5 : c == 60
   case false =>
    rw [e5] at hR
    refine RG.nilS (AC.cond_t rfl (AC.seq (AC.reg ?_)))
    refine go1 ?_
    refine RG.at (b := c) .d wh wh (by omega) rfl ?_
    obtain ⟨A, u, hB, hBk⟩ := hS.bld
    refine RG.call .d rfl (WriteByte_ok hB (by omega)) (fun d H4 ⟨_, hB4⟩ => ?_) (fun _ _ h => h.elim)
    have hS4 := hBk _ _ _ hB4
    refine RG.nilS (AC.reg ?_)
    have hrd4 := hS4.rd
    refine go ?_
    exact RG.nil (again (hS4.upd (i + 1)) hR (by omega) (by omega) (by rw [List.length_append, List.length_singleton]; omega) hkl _ ⟨rfl, rfl, rfl, rfl, trivial⟩)
   rw [e5, Bool.not_true, cond_false] at hR
   change (bif !(hdL l) then .error ((i : Nat), 3) else bif !more then .error ((i : Nat), 9) else bif !(decide (ks.length < 200)) then .error ((i : Nat), 4) else match kid i with | .error e => .error e | .ok (x, j) => withinF s kid more f j txt (ks ++ [x])) = R at hR
   refine RG.nilS (AC.cond_f rfl (AC.seq ?_))
   refine AC.mono (Q := fun e fr2 H2 => match e with
    | .normal => H2 = H3 ∧ hdL l = true ∧ Agrees fr2 [(0, .ptr b 0), (1, .ptr be 0), (2, .int .i64 deep), (7, .ptr bb 0), (9, .int .i64 i)]
    | .panic d => d = fault i 3 ∧ H2 = H3 ∧ hdL l = false
    | _ => False) (AC.reg ?_) ?_
   · refine go1 ?_
     refine RG.p (d := .int .i64 ((c :: l).length : Nat)) .d rfl ?_
     refine RG.p (d := .bool (decide (1 < (c :: l).length))) .d (by
      show some (DV.bool (decide ((((c :: l).length : Nat) : Int) > 1))) = _
      congr 2
      rw [decide_eq_decide]; omega) ?_
     cases l with
     | nil =>
       refine go ?_
       refine RG.call .d rfl (need_ok false i 3 _) (fun d H5 ⟨k1, _⟩ => by cases k1) (fun d H5 ⟨_, k2, k3⟩ => ⟨k2, k3, rfl⟩)
     | cons c2 l =>
       have : decide (1 < (c :: c2 :: l).length) = true := by simp
       rw [this]
       refine go1 ?_
       refine go1 ?_
       refine RG.at (b := c2) .d wh wh (by omega) rfl ?_
       refine RG.callP .d rfl (letter_ok c2) ?_
       refine go ?_
       exact RG.call .d rfl (need_ok (isLetter c2) i 3 _) (fun d H5 ⟨k1, k2, k3⟩ => RG.nil ⟨k3, k1, rfl, rfl, rfl, rfl, rfl, trivial⟩) (fun d H5 ⟨k1, k2, k3⟩ => ⟨k2, k3, k1⟩)
   rintro e fr2 H2 hq
   cases e with
   | exit id => exact hq.elim
   | ret => exact hq.elim
   | panic d =>
     obtain ⟨k1, k2, k3⟩ := hq
     subst k1; subst k2
     rw [k3] at hR
     exact bad (e := (i, 3)) hR.symm hi hS
   | normal =>
   obtain ⟨k1, k2, k3⟩ := hq
   subst k1
   rw [k2, Bool.not_true, cond_false] at hR
   refine AC.to _ k3 (AC.seq (AC.reg ?_))
   refine go1 ?_
   refine RG.p (d := .bool more) .d (by
    show some (DV.bool (decide ((deep : Int) < 12))) = _
    rw [hm]
    congr 2
    rw [decide_eq_decide]; omega) ?_
   refine go1 ?_
   refine RG.call .d rfl (need_ok more i 9 _) (fun d H3 ⟨k1, k2, k3⟩ => ?_) (fun d H3 ⟨k1, k2, k3⟩ => ?_)
   rotate_left
   · subst k2; subst k3
     rw [k1] at hR
     exact bad (e := (i, 9)) hR.symm hi hS
   subst k2; subst k3
   rw [k1, Bool.not_true, cond_false] at hR
   have hdeep : deep < 12 := by rw [k1] at hm; exact of_decide_eq_true hm.symm
   have again2 := @again
   rw [k1] at again2
   clear again
   refine RG.nilS (AC.seq (AC.reg ?_))
   obtain ⟨K, hK1, hK2⟩ := hS.var
   refine go1 ?_
   refine go1 ?_
   refine go1 ?_
   refine RG.ld .d wh hK1 (d := K) rfl ?_
   refine RG.p (d := .int .i64 ks.length) .d hK2 ?_
   have h200 : decide (((ks.length : Nat) : Int) < 200) = decide (ks.length < 200) := by rw [decide_eq_decide]; omega
   refine RG.p (d := .bool (decide (((ks.length : Nat) : Int) < 200))) .d rfl ?_
   rw [h200]
   refine go1 ?_
   refine RG.call .d rfl (need_ok (decide (ks.length < 200)) i 4 _) (fun d H3 ⟨k1, k2, k3⟩ => ?_) (fun d H3 ⟨k1, k2, k3⟩ => ?_)
   rotate_left
   · subst k2; subst k3
     rw [k1] at hR
     exact bad (e := (i, 4)) hR.symm hi hS
   subst k2; subst k3
   rw [k1, Bool.not_true, cond_false] at hR
   have hk200 := of_decide_eq_true k1
   refine RG.nilS (AC.to [(0, .ptr b 0), (1, .ptr be 0), (2, .int .i64 deep), (7, .ptr bb 0)] ⟨rfl, rfl, rfl, rfl, trivial⟩ ?_)
   refine kid_reg hS (by omega) hkl (hkid hdeep i _ hS.rd hi) (fun e j fr' h1 h2 => ?_) (fun x j H2 h1 h2 fr' hfr' => ?_)
   · rw [h1] at hR
     exact bad hR.symm h2 (hS.upd j)
   · rw [h1] at hR
     have hp := hprog i x j hi h1
     exact again2 h2 hR hp.1 hp.2.1 (by omega) (by simp; omega) fr' hfr'
def F53 : FN := ⟨152, (.seq (.reg [ji 6 (.alloc [(.int .i64 0), (.str []), (.str []), (.bool false), .nils] 24)])
 (.scp (.seq (.draw [ji 17 (.mv (.t 0)), ji 18 (.call 55 [(.t 17)]), ji 19 (.bin .neq (.t 18) (.c (.str []))), ji 20 (.mv (.t 0)), ji 21 (.nilc (.t 20)), ji 22 (.fadr 1 (.t 21)), ji 23 (.ld false 1 (.t 22)), ji 24 (.call 54 [(.t 19), (.t 23), (ci 1)])] [[], [0], [1], [], [3], [4], [5], [2, 6, 1]])
 (.seq (.reg [ji 25 (.mv (.t 0)), ji 26 (.nilc (.t 25)), ji 27 (.fadr 1 (.t 26)), ji 28 (.ld false 1 (.t 27)), ji 7 (.mv (.t 28))])
 (.seq (.reg [ji 29 (.mv (.t 0)), ji 30 (.call 50 [(.t 29), (.c (.str [60]))]), ji 31 (.mv (.t 7)), ji 32 (.call 54 [(.t 30), (.t 31), (ci 3)])])
 (.seq (.reg [ji 33 (.mv (.t 0)), ji 34 (.nilc (.t 33)), ji 35 (.fadr 1 (.t 34)), ji 36 (.ld false 1 (.t 35)), ji 8 (.mv (.t 36))])
 (.seq (.reg [ji 37 (.mv (.t 1)), ji 38 (.mv (.t 0)), ji 39 (.call 112 [(.t 38)]), ji 40 (.bld [(.int .i64 0), (.str []), (.str []), (.bool false), .nils] [(0, 1, (.t 37)), (1, 1, (.t 39))]), ji 9 (.alloc [(.int .i64 0), (.str []), (.str []), (.bool false), .nils] 24), jn (.st 5 (.t 9) (.t 40))])
 (.seq (.reg [ji 41 (.fadr 1 (.t 9)), ji 42 (.ld false 1 (.t 41)), ji 43 (.bin .neq (.t 42) (.c (.str []))), ji 44 (.mv (.t 43)), jg 45 44 true (.fadr 1 (.t 9)), jg 46 44 true (.ld false 1 (.t 45)), jg 47 44 true (.idx (.t 46) (ci 0)), jg 48 44 true (.call 113 [(.t 47)]), ji 49 (.pick (.t 44) (.t 48) (.c (.bool false))), ji 50 (.mv (.t 49)), jg 51 50 true (.fadr 1 (.t 9)), jg 52 50 true (.ld false 1 (.t 51)), jg 53 50 true (.len true (.t 52)), jg 54 50 true (.bin .leq (.t 53) (ci 32)), ji 55 (.pick (.t 50) (.t 54) (.c (.bool false))), ji 56 (.mv (.t 8)), ji 57 (.call 54 [(.t 55), (.t 56), (ci 14)])])
 (.seq (.reg [ji 10 (.mv (.c (.bool false))), ji 11 (.mv (.c (.bool false)))])
 (.seq .skip
 (.seq (.block 0 (.loop (.block 1 (.seq (.reg [ji 58 (.mv (.t 0)), ji 59 (.call 52 [(.t 58)]), ji 12 (.mv (.t 59))])
 (.seq (.reg [ji 60 (.mv (.t 0)), ji 61 (.nilc (.t 60)), ji 62 (.fadr 1 (.t 61)), ji 63 (.ld false 1 (.t 62)), ji 8 (.mv (.t 63))])
 (.block 2 (.seq (.reg [ji 67 (.mv (.t 0)), ji 68 (.call 50 [(.t 67), (.c (.str [47, 62]))]), ji 66 (.mv (.t 68))])
 (.cond (.t 66) (.seq (.reg [ji 69 (.ld true 5 (.t 9)), jn (.st 5 (.t 6) (.t 69))])
 .ret)
 (.seq (.reg [ji 71 (.mv (.t 0)), ji 72 (.call 50 [(.t 71), (.c (.str [62]))]), ji 70 (.mv (.t 72))])
 (.cond (.t 70) (.exit 0)
 (.seq (.reg [ji 74 (.mv (.t 12)), ji 75 (.un .not (.t 74)), ji 73 (.mv (.t 75))])
 (.cond (.t 73) (.reg [ji 76 (.mv (.t 8)), ji 77 (.call 54 [(.c (.bool false)), (.t 76), (ci 3)])])
 (.seq (.reg [ji 79 (.mv (.t 0)), ji 80 (.call 50 [(.t 79), (.c (.str [120, 109, 108, 110, 115, 61, 34]))]), ji 78 (.mv (.t 80))])
 (.cond (.t 78) (.seq (.reg [ji 81 (.mv (.t 10)), ji 82 (.un .not (.t 81)), ji 83 (.mv (.t 8)), ji 84 (.call 54 [(.t 82), (.t 83), (ci 11)])])
 (.seq (.reg [ji 10 (.mv (.c (.bool true)))])
 (.seq (.reg [ji 85 (.mv (.t 0)), ji 86 (.call 51 [(.t 85), (.c (.str [34]))]), ji 87 (.call 114 [(.t 86)]), ji 88 (.fadr 0 (.t 9)), jn (.st 1 (.t 88) (.t 87))])
 (.reg [ji 89 (.fadr 0 (.t 9)), ji 90 (.ld false 1 (.t 89)), ji 91 (.bin .geq (.t 90) (ci 0)), ji 92 (.mv (.t 8)), ji 93 (.call 54 [(.t 91), (.t 92), (ci 5)])]))))
 (.seq (.reg [ji 95 (.mv (.t 0)), ji 96 (.call 50 [(.t 95), (.c (.str [101, 110, 99, 61, 34]))]), ji 94 (.mv (.t 96))])
 (.cond (.t 94) (.seq (.reg [ji 97 (.mv (.t 11)), ji 98 (.un .not (.t 97)), ji 99 (.mv (.t 8)), ji 100 (.call 54 [(.t 98), (.t 99), (ci 11)])])
 (.seq (.reg [ji 11 (.mv (.c (.bool true)))])
 (.reg [ji 101 (.mv (.t 0)), ji 102 (.call 51 [(.t 101), (.c (.str [34]))]), ji 103 (.bin .eql (.t 102) (.c (.str [98, 54, 52]))), ji 104 (.mv (.t 8)), ji 105 (.call 54 [(.t 103), (.t 104), (ci 5)])])))
 (.reg [ji 64 (.mv (.t 8)), ji 65 (.call 54 [(.c (.bool false)), (.t 64), (ci 3)])])))))))))))))))))
 (.seq (.reg [ji 106 (.mv (.t 0)), ji 107 (.mv (.t 2)), ji 108 (.call 115 [(.t 106), (.t 9), (.t 107)]), ji 13 (.mv (.t 108))])
 (.seq (.reg [ji 109 (.mv (.t 0)), ji 110 (.nilc (.t 109)), ji 111 (.fadr 1 (.t 110)), ji 112 (.ld false 1 (.t 111)), ji 113 (.bin .sub (.t 112) (ci 2)), ji 14 (.mv (.t 113))])
 (.seq (.reg [ji 114 (.mv (.t 0)), ji 115 (.fadr 1 (.t 9)), ji 116 (.ld false 1 (.t 115)), ji 117 (.call 116 [(.t 114), (.t 116)])])
 (.seq (.block 3 (.seq (.reg [ji 121 (.fadr 4 (.t 9)), ji 122 (.ld false 1 (.t 121)), ji 123 (.len false (.t 122)), ji 124 (.bin .gtr (.t 123) (ci 0)), ji 120 (.mv (.t 124))])
 (.cond (.t 120) (.reg [ji 125 (.mv (.t 11)), ji 126 (.un .not (.t 125)), ji 127 (.mv (.t 126)), jg 128 127 true (.mv (.t 13)), jg 129 127 true (.call 117 [(.t 128), (.c (.str [32, 9, 10, 13]))]), jg 130 127 true (.bin .eql (.t 129) (.c (.str []))), ji 131 (.pick (.t 127) (.t 130) (.c (.bool false))), ji 132 (.mv (.t 14)), ji 133 (.call 54 [(.t 131), (.t 132), (ci 7)])])
 (.seq (.reg [ji 135 (.mv (.t 11)), ji 134 (.mv (.t 135))])
 (.cond (.t 134) (.seq (.reg [ji 137 (.mv (.t 13)), ji 138 (.call 118 [(.t 137)]), ji 136 (.mv (.t 138)), ji 139 (.ext (.t 136) 0), ji 140 (.ext (.t 136) 1), ji 15 (.mv (.t 139)), ji 16 (.mv (.t 140))])
 (.seq (.reg [ji 141 (.mv (.t 16)), ji 142 (.bin .eql (.t 141) (ci 0)), ji 143 (.mv (.t 14)), ji 144 (.mv (.t 16)), ji 145 (.call 54 [(.t 142), (.t 143), (.t 144)])])
 (.reg [ji 146 (.mv (.t 15)), ji 147 (.mv (.t 15)), ji 148 (.bin .neq (.t 147) (.c (.str []))), ji 149 (.fadr 2 (.t 9)), jn (.st 1 (.t 149) (.t 146)), ji 150 (.fadr 3 (.t 9)), jn (.st 1 (.t 150) (.t 148))])))
 (.reg [ji 118 (.mv (.t 13)), ji 119 (.fadr 2 (.t 9)), jn (.st 1 (.t 119) (.t 118))]))))))
 (.seq (.reg [ji 151 (.ld true 5 (.t 9)), jn (.st 5 (.t 6) (.t 151))])
 .ret)))))))))))))))), [.cell 6 true 5]⟩
theorem cF53 : cFn prog 53 = some F53 := by kernel_rfl
theorem attrsF_prog {s : List UInt8} : ∀ (f i : Nat) (pg : Int) (nm by_ : Bool) (c : Bool) (j : Nat) (p : Int) (y : Bool), attrsF s f i pg nm by_ = .ok (c, j, p, y) → i ≤ s.length → i < j ∧ j ≤ s.length
 | 0, _, _, _, _, _, _, _, _, h, _ => by simp [attrsF] at h
 | f + 1, i, pg, nm, by_, c, j, p, y, h, hi => by
   rw [attrsF] at h
   try dsimp only at h
   have hw := wsN_le (s.drop i)
   rw [List.length_drop] at hw
   cases e1 : List.isPrefixOf [47, 62] (s.drop (i + wsN (s.drop i)))
   case true =>
    rw [e1] at h
    simp only [cond_true, Except.ok.injEq, Prod.mk.injEq] at h
    have := prefix_le e1 (by simp)
    simp only [List.length_cons, List.length_nil] at this
    omega
   rw [e1, cond_false] at h
   cases e2 : List.isPrefixOf [62] (s.drop (i + wsN (s.drop i)))
   case true =>
    rw [e2] at h
    simp only [cond_true, Except.ok.injEq, Prod.mk.injEq] at h
    have := prefix_le e2 (by simp)
    simp only [List.length_cons, List.length_nil] at this
    omega
   rw [e2, cond_false] at h
   obtain ⟨_, h⟩ := bif_ok h
   cases e3 : List.isPrefixOf spaceMark (s.drop (i + wsN (s.drop i)))
   case true =>
    rw [e3, cond_true] at h
    obtain ⟨_, h⟩ := bif_ok h
    have hpl := prefix_le e3 (by simp [spaceMark])
    have h7 : spaceMark.length = 7 := rfl
    rw [h7] at hpl
    cases hu : uptoF s [34] (i + wsN (s.drop i) + 7) with
    | error e => rw [hu] at h; cases h
    | ok q =>
      obtain ⟨v, k⟩ := q
      rw [hu] at h
      dsimp only at h
      have hp := uptoF_prog hu hpl
      cases e4 : decide (pageOf v ≥ 0)
      · rw [e4] at h; cases h
      · rw [e4] at h
        have := attrsF_prog f k _ _ _ _ _ _ _ h hp.2
        omega
   rw [e3, cond_false] at h
   cases e5 : List.isPrefixOf codeMark (s.drop (i + wsN (s.drop i)))
   · rw [e5] at h; cases h
   rw [e5, cond_true] at h
   obtain ⟨_, h⟩ := bif_ok h
   have hpl := prefix_le e5 (by simp [codeMark])
   have h5 : codeMark.length = 5 := rfl
   rw [h5] at hpl
   cases hu : uptoF s [34] (i + wsN (s.drop i) + 5) with
   | error e => rw [hu] at h; cases h
   | ok q =>
     obtain ⟨v, k⟩ := q
     rw [hu] at h
     dsimp only at h
     have hp := uptoF_prog hu hpl
     cases e4 : v == b64
     · rw [e4] at h; cases h
     · rw [e4] at h
       have := attrsF_prog f k _ _ _ _ _ _ _ h hp.2
       omega
theorem closeF_prog {s n : List UInt8} {i q : Nat} (h : closeF s n i = .ok q) : i < q ∧ q ≤ s.length := by
 unfold closeF at h
 dsimp only at h
 obtain ⟨_, h⟩ := bif_ok h
 obtain ⟨_, h⟩ := bif_ok h
 cases e1 : List.isPrefixOf [62] (s.drop (i + span isNameC s.length (s.drop i) + wsN (s.drop (i + span isNameC s.length (s.drop i)))))
 · rw [e1] at h; cases h
 rw [e1] at h
 simp only [cond_true, Except.ok.injEq] at h
 have := prefix_le e1 (by simp)
 simp only [List.length_cons, List.length_nil] at this
 omega
theorem withinF_len {s : List UInt8} {kid : Nat → RES (El × Nat)} {more : Bool} (hk : ∀ i x j, i ≤ s.length → kid i = .ok (x, j) → i < j ∧ j ≤ s.length ∧ fits x) : ∀ (f i : Nat) (b : List UInt8) (ks : List El) (t : List UInt8) (ks' : List El) (m : Nat),
  withinF s kid more f i b ks = .ok (t, ks', m) → i ≤ s.length → t.length + 4 * i ≤ b.length + 4 * m
 | 0, i, b, ks, t, ks', m, h, _ => by simp [withinF] at h
 | f + 1, i, b, ks, t, ks', m, h, hi => by
   rw [withinF] at h
   cases e1 : List.isPrefixOf [60, 47] (s.drop i)
   case true =>
    rw [e1] at h
    simp only [cond_true, Except.ok.injEq, Prod.mk.injEq] at h
    obtain ⟨rfl, rfl, rfl⟩ := h
    omega
   rw [e1, cond_false] at h
   cases hd : s.drop i with
   | nil => rw [hd] at h; cases h
   | cons c l =>
     have hlt : i < s.length := by
      have := congrArg List.length hd
      simp only [List.length_drop, List.length_cons] at this
      omega
     rw [hd] at h
     dsimp only at h
     cases e2 : c == 38
     case true =>
      rw [e2, cond_true] at h
      cases he : entityF s i with
      | error e => rw [he] at h; cases h
      | ok p =>
        obtain ⟨x, j⟩ := p
        rw [he] at h
        have hp := entityF_prog he
        have hxl := entityF_len he
        have a1 := withinF_len hk f j _ _ _ _ _ h hp.2
        rw [List.length_append] at a1
        omega
     rw [e2, cond_false] at h
     cases e3 : List.isPrefixOf rawM (c :: l)
     case true =>
      rw [e3, cond_true] at h
      have hpl := prefix_le (t := rawM) (s := s) (i := i) (by rw [hd]; exact e3) (by simp [rawM])
      cases he : uptoF s rawEnd (i + 9) with
      | error e => rw [he] at h; cases h
      | ok p =>
        obtain ⟨x, j⟩ := p
        rw [he] at h
        have hp := uptoF_prog he hpl
        have hxl := uptoF_len he
        have a1 := withinF_len hk f j _ _ _ _ _ h hp.2
        try rw [List.length_append] at a1
        omega
     rw [e3, cond_false] at h
     cases e4 : List.isPrefixOf remM (c :: l)
     case true =>
      rw [e4, cond_true] at h
      have hpl := prefix_le (t := remM) (s := s) (i := i) (by rw [hd]; exact e4) (by simp [remM])
      cases he : uptoF s remEnd (i + 4) with
      | error e => rw [he] at h; cases h
      | ok p =>
        obtain ⟨x, j⟩ := p
        rw [he] at h
        have hp := uptoF_prog he hpl
        have hxl := uptoF_len he
        have a1 := withinF_len hk f j _ _ _ _ _ h hp.2
        try rw [List.length_append] at a1
        omega
     rw [e4, cond_false] at h
     cases e5 : c == 60
     case false =>
      rw [e5] at h
      have a1 := withinF_len hk f (i + 1) _ _ _ _ _ h (by omega)
      rw [List.length_append, List.length_singleton] at a1
      omega
     rw [e5, Bool.not_true, cond_false] at h
     obtain ⟨_, h⟩ := bif_ok h
     obtain ⟨_, h⟩ := bif_ok h
     obtain ⟨e6, h⟩ := bif_ok h
     rw [Bool.not_eq_false', decide_eq_true_eq] at e6
     cases he : kid i with
     | error e => rw [he] at h; cases h
     | ok p =>
       obtain ⟨x, j⟩ := p
       rw [he] at h
       have hp := hk i x j hi he
       have a1 := withinF_len hk f j _ _ _ _ _ h hp.2.1
       omega
theorem elemB_prog {s : List UInt8} {kid : Int → Nat → RES (El × Nat)} {more : Bool} {pg : Int} (hk : ∀ p i x j, i ≤ s.length → kid p i = .ok (x, j) → i < j ∧ j ≤ s.length ∧ fits x) {i : Nat} {x : El} {j : Nat} (hi : i ≤ s.length) (h : elemB s kid more pg i = .ok (x, j)) :
  i < j ∧ j ≤ s.length ∧ fits x := by
 unfold elemB at h
 obtain ⟨_, h⟩ := bif_ok h
 obtain ⟨e1, h⟩ := bif_ok h
 obtain ⟨_, h⟩ := bif_ok h
 rw [Bool.not_eq_false'] at e1
 have hpl := prefix_le e1 (by simp)
 simp only [List.length_cons, List.length_nil] at hpl
 have hsp := span_le isNameC s.length (s.drop (i + 1))
 rw [List.length_drop] at hsp
 cases ha : attrsF s (s.length + 1) (i + 1 + span isNameC s.length (s.drop (i + 1))) pg false false with
 | error e => rw [ha] at h; cases h
 | ok q =>
   obtain ⟨c, a, p, y⟩ := q
   rw [ha] at h
   have hp := attrsF_prog _ _ _ _ _ _ _ _ _ ha (by omega)
   cases c with
   | true =>
     simp only [Except.ok.injEq, Prod.mk.injEq] at h
     obtain ⟨rfl, rfl⟩ := h
     exact ⟨by omega, hp.2, by simp [fits, fitss]⟩
   | false =>
     dsimp only at h
     cases hw : withinF s (kid p) more (s.length + 1) a [] [] with
     | error e => rw [hw] at h; cases h
     | ok q =>
       obtain ⟨t, ks, m⟩ := q
       rw [hw] at h
       dsimp only at h
       have hwp := withinF_prog (hk p) _ _ _ _ _ _ _ hw hp.2 trivial (by simp)
       cases hc : closeF s (List.take (span isNameC s.length (List.drop (i + 1) s)) (List.drop (i + 1) s)) m with
       | error e => rw [hc] at h; cases h
       | ok q =>
         rw [hc] at h
         dsimp only at h
         have hcp := closeF_prog hc
         have fin : ∀ x', .ok (x', q) = (.ok (x, j) : RES (El × Nat)) → fits x' → i < j ∧ j ≤ s.length ∧ fits x := by
          intro x' h1 h2
          simp only [Except.ok.injEq, Prod.mk.injEq] at h1
          obtain ⟨rfl, rfl⟩ := h1
          exact ⟨by omega, hcp.2, h2⟩
         unfold endF at h
         cases c1 : decide (0 < ks.length)
         · rw [c1, cond_false] at h
           cases y
           · exact fin _ h (by simp [fits, fitss])
           · rw [cond_true] at h
             cases c2 : (decF t).2 == 0
             · rw [c2] at h; cases h
             · rw [c2] at h
               exact fin _ h (by simp [fits, fitss])
         · rw [c1, cond_true] at h
           cases c2 : (!y && trimF t == [])
           · rw [c2] at h; cases h
           · rw [c2] at h
             exact fin _ h ⟨by omega, hwp.2.2.1⟩
theorem elemF_prog {s : List UInt8} : ∀ (d : Nat) (pg : Int) (i : Nat) (x : El) (j : Nat), i ≤ s.length → elemF s d pg i = .ok (x, j) → i < j ∧ j ≤ s.length ∧ fits x
 | 0, pg, i, x, j, hi, h => elemB_prog (fun _ _ _ _ _ h => by cases h) hi h
 | d + 1, pg, i, x, j, hi, h => elemB_prog (fun p i x j => elemF_prog d p i x j) hi h
theorem trim_ok' (t : List UInt8) (hs : t.length ≤ 4611686018427387904) : PF prog G 117 [.str t, .str [32, 9, 10, 13]] (.str (trimF t)) :=
 trim_ok t [32, 9, 10, 13] (by decide) (by decide) (by decide) (by omega)
def eH (H : Hp) (b b6 be : Nat) (s : List UInt8) (ty : TypeId) (i : Nat) (cs : List DV) : Hp := ((H.upd b6 (some (.cells Z5 elT))).upd b (rd s i ty)).upd be (some (.cells cs elT))
section
variable {H : Hp} {b b6 be : Nat} {s : List UInt8} {ty : TypeId} {i : Nat} {cs : List DV}
theorem eH_b (h : b ≠ be) : eH H b b6 be s ty i cs b = rd s i ty := by rw [eH, Hp.upd_ne h]; exact Hp.upd_same
theorem eH_be : eH H b b6 be s ty i cs be = some (.cells cs elT) := Hp.upd_same
theorem eH_b6 (h1 : b6 ≠ b) (h2 : b6 ≠ be) : eH H b b6 be s ty i cs b6 = some (.cells Z5 elT) := by rw [eH, Hp.upd_ne h2, Hp.upd_ne h1]; exact Hp.upd_same
theorem eH_setb (h : b ≠ be) (j : Nat) : (eH H b b6 be s ty i cs).upd b (rd s j ty) = eH H b b6 be s ty j cs := by
 rw [eH, Hp.upd_comm (Ne.symm h), Hp.upd_upd]; rfl
theorem eH_setbe (cs' : List DV) : (eH H b b6 be s ty i cs).upd be (some (.cells cs' elT)) = eH H b b6 be s ty i cs' := Hp.upd_upd
theorem eH_sub (h1 : b6 ≠ b) (h2 : be ≠ b) (h3 : be ≠ b6) (h4 : H b6 = none) (h5 : H be = none) : SubH (H.upd b (rd s i ty)) (eH H b b6 be s ty i cs) := by
 rw [eH, Hp.upd_comm h1]
 exact (SubH.fresh (by rw [Hp.upd_ne h1]; exact h4)).trans (SubH.fresh (by rw [Hp.upd_ne h3, Hp.upd_ne h2]; exact h5))
end
theorem SubH.over {A B : Hp} {k : Nat} {o : Option DO} (h : SubH A B) (hk : A k = none) : SubH A (B.upd k o) := by
 intro q x e
 have : q ≠ k := fun e' => by rw [e', hk] at e; cases e
 rw [Hp.upd_ne this]; exact h q x e
theorem KD.les {p : Int} {n t : List UInt8} {o : Bool} {ks : List El} {K : DV} (h : KD ks K) : DLes [.int .i64 p, .str n, .str t, .bool o, K] (elC (.mk p n t o ks)) := by
 rw [elC]
 refine .cons (DLe.refl _) (.cons (DLe.refl _) (.cons (DLe.refl _) (.cons (DLe.refl _) (.cons ?_ .nil))))
 rcases h with ⟨rfl, rfl⟩ | rfl
 · exact DLe.nils
 · exact DLe.refl _
theorem KD.len {ks : List El} {K : DV} (h : KD ks K) : lenD false K = some (.int .i64 ks.length) := by
 rcases h with ⟨rfl, rfl⟩ | rfl <;> rfl
theorem elem_step (hG : GOK G) {s : List UInt8} {ty : TypeId} {b deep : Nat} {kid : Int → Nat → RES (El × Nat)} {more : Bool} (hs : s.length ≤ 100000) (hd : deep ≤ 12) (hm : more = decide (deep < 12))
  (hprog : ∀ p i x j, i ≤ s.length → kid p i = .ok (x, j) → i < j ∧ j ≤ s.length ∧ fits x)
  (hkid : deep < 12 → ∀ p i' HH, HH b = rd s i' ty → i' ≤ s.length → CALL prog G 53 [.ptr b 0, .int .i64 p, .int .i64 ((deep + 1 : Nat) : Int)] HH (Kr1 (kid p i') (fun v => .agg (elC v.1)) (·.2) s b ty HH) (Kp1 (kid p i') s b ty HH))
  (pg : Int) (i : Nat) (H : Hp) (hb : H b = rd s i ty) (hi : i ≤ s.length) :
  CALL prog G 53 [.ptr b 0, .int .i64 pg, .int .i64 deep] H (Kr1 (elemB s kid more pg i) (fun v => .agg (elC v.1)) (·.2) s b ty H) (Kp1 (elemB s kid more pg i) s b ty H) := by
 generalize hRR : elemB s kid more pg i = R
 have hR := hRR
 unfold elemB at hR
 refine CALL.of cF53 (Nat.le_of_ble_eq_true rfl) ?_
 refine AC.seq (AC.reg ?_)
 refine RG.alloc .d fun b6 hb6 => ?_
 have h6b : b6 ≠ b := fun e => by rw [e, hb] at hb6; cases hb6
 have hb1 : (H.upd b6 (some (.cells Z5 elT))) b = rd s i ty := by rw [Hp.upd_ne (Ne.symm h6b)]; exact hb
 have hH1 : H.upd b6 (some (.cells [.int .i64 0, .str [], .str [], .bool false, .nils] 24)) = H.upd b6 (some (.cells Z5 elT)) := rfl
 rw [hH1]
 have bad1 : ∀ {e : Int × Int} {j : Nat} {HH : Hp}, R = .error e → j ≤ s.length → SubH (H.upd b (rd s j ty)) HH → ∃ H', SubH H' HH ∧ Kp1 R s b ty H (fault e.1 e.2) H' := fun {e j _} h1 h2 h3 => ⟨_, h3, e, j, h1, rfl, h2, rfl⟩
 have sub6 : ∀ j, SubH (H.upd b (rd s j ty)) ((H.upd b6 (some (.cells Z5 elT))).upd b (rd s j ty)) := fun j => by
  rw [Hp.upd_comm h6b]
  exact SubH.fresh (by rw [Hp.upd_ne h6b]; exact hb6)
 refine RG.nilS (AC.scp (AC.seq (AC.drawV [1, 7] rfl ?_)))
 first|refine VD.z0 0 ?_|refine VD.z1 0 ?_|refine VD.z2 0 ?_|refine VD.z3 0 ?_|refine VD.z4 0 ?_|refine VD.z5 0 ?_
 first|refine VD.z0 3 ?_|refine VD.z1 3 ?_|refine VD.z2 3 ?_|refine VD.z3 3 ?_|refine VD.z4 3 ?_|refine VD.z5 3 ?_
 first|refine VD.z0 4 ?_|refine VD.z1 4 ?_|refine VD.z2 4 ?_|refine VD.z3 4 ?_|refine VD.z4 4 ?_|refine VD.z5 4 ?_
 first|refine VD.z0 5 ?_|refine VD.z1 5 ?_|refine VD.z2 5 ?_|refine VD.z3 5 ?_|refine VD.z4 5 ?_|refine VD.z5 5 ?_
 first|refine VD.z0 6 ?_|refine VD.z1 6 ?_|refine VD.z2 6 ?_|refine VD.z3 6 ?_|refine VD.z4 6 ?_|refine VD.z5 6 ?_
 refine VD.pe (K := fun d H' => d = .str (s.drop i) ∧ H' = H.upd b6 (some (.cells Z5 elT))) (Kp := fun _ _ => False) 1 rfl rfl (EF.call rfl (left_ok hb1 hi)) (fun _ _ _ h => h.elim) (fun d H' ⟨f1, f2⟩ => ?_)
 subst f1; subst f2
 refine ⟨stb, ?_⟩
 first|refine VD.z0 2 ?_|refine VD.z1 2 ?_|refine VD.z2 2 ?_|refine VD.z3 2 ?_|refine VD.z4 2 ?_|refine VD.z5 2 ?_
 refine VD.pe (K := fun d H' => (!(s.drop i == [])) = true ∧ d = .tup [] ∧ H' = H.upd b6 (some (.cells Z5 elT))) (Kp := fun d H' => (!(s.drop i == [])) = false ∧ d = fault i 1 ∧ H' = H.upd b6 (some (.cells Z5 elT))) 7 rfl rfl (EF.call rfl (need_ok _ i 1 _)) (fun d fr' H' ⟨f1, f2, f3⟩ => ?_) (fun d H' ⟨f1, f2, f3⟩ => ?_)
 · subst f2; subst f3
   have f4 : (s.drop i == []) = true := by simpa using f1
   rw [f4] at hR
   refine bad1 (e := (i, 1)) hR.symm hi ?_
   have := sub6 i
   rw [Hp.upd_id hb1] at this
   exact this
 subst f2; subst f3
 refine ⟨stb, ?_⟩
 have f4 : (s.drop i == []) = false := by simpa using f1
 rw [f4, cond_false] at hR
 refine VD.pd rfl ?_
 refine AC.to [(0, .ptr b 0), (1, .int .i64 pg), (2, .int .i64 deep), (6, .ptr b6 0)] ⟨rfl, rfl, rfl, rfl, trivial⟩ (AC.seq (AC.reg ?_))
 refine go ?_
 refine RG.nilS (AC.seq (AC.reg ?_))
 refine go1 ?_
 refine RG.callR .d rfl (has_ok (t := [60]) hb1 hi (by simp; omega)) ?_
 refine go1 ?_
 refine RG.call .d rfl (need_ok _ i 3 _) (fun d H' ⟨g1, g2, g3⟩ => ?_) (fun d H' ⟨g1, g2, g3⟩ => ?_)
 rotate_left
 · subst g2; subst g3
   rw [g1] at hR ⊢
   exact bad1 (e := (i, 3)) hR.symm hi (sub6 i)
 subst g2; subst g3
 rw [g1] at hR ⊢
 simp only [Bool.not_true, cond_false, cond_true, List.length_singleton] at hR ⊢
 have hpl := prefix_le g1 (by simp)
 simp only [List.length_singleton] at hpl
 have hsp := span_le isNameC s.length (s.drop (i + 1))
 rw [List.length_drop] at hsp
 generalize hk : span isNameC s.length (s.drop (i + 1)) = k at hR hsp
 generalize hn : (s.drop (i + 1)).take k = n at hR
 have hnl : n.length ≤ s.length := by rw [← hn, List.length_take, List.length_drop]; omega
 refine RG.nilS (AC.seq (AC.reg ?_))
 have hb2 : ((H.upd b6 (some (.cells Z5 elT))).upd b (rd s (i + 1) ty)) b = rd s (i + 1) ty := Hp.upd_same
 refine go ?_
 refine RG.nilS (AC.seq (AC.reg ?_))
 refine go1 ?_
 refine go1 ?_
 refine RG.callR .d rfl (name_ok hb2 hpl (by omega)) ?_
 rw [hk, hn, Hp.upd_upd]
 refine RG.p (d := .agg [.int .i64 pg, .str n, .str [], .bool false, .nils]) .d rfl ?_
 refine RG.alloc .d fun be hbe => ?_
 have heb : be ≠ b := fun e => by rw [e, Hp.upd_same] at hbe; cases hbe
 rw [Hp.upd_ne heb] at hbe
 have he6 : be ≠ b6 := fun e => by rw [e, Hp.upd_same] at hbe; cases hbe
 rw [Hp.upd_ne he6] at hbe
 have hE0 : ((H.upd b6 (some (.cells Z5 elT))).upd b (rd s (i + 1 + k) ty)).upd be (some (.cells [.int .i64 0, .str [], .str [], .bool false, .nils] 24)) = eH H b b6 be s ty (i + 1 + k) Z5 := rfl
 rw [hE0]
 have hbe' : b ≠ be := Ne.symm heb
 refine RG.sto (cs := Z5) (ty := elT) (ys := [.int .i64 pg, .str n, .str [], .bool false, .nils]) .d wh eH_be wh rfl rfl (by exact Nat.le_refl _) ?_
 rw [eH_setbe]
 have hsp5 : spliceL 0 [.int .i64 pg, .str n, .str [], .bool false, .nils] Z5 = [.int .i64 pg, .str n, .str [], .bool false, .nils] := rfl
 rw [hsp5]
 have bad : ∀ {e : Int × Int} {j : Nat} {cs : List DV}, R = .error e → j ≤ s.length → ∃ H', SubH H' (eH H b b6 be s ty j cs) ∧ Kp1 R s b ty H (fault e.1 e.2) H' := fun h1 h2 => bad1 h1 h2 (eH_sub h6b heb he6 hb6 hbe)
 refine RG.nilS ?_
 refine AC.to [(0, .ptr b 0), (2, .int .i64 deep), (6, .ptr b6 0), (8, .int .i64 ((i + 1 : Nat) : Int)), (9, .ptr be 0)] ⟨rfl, rfl, rfl, rfl, rfl, trivial⟩ (AC.seq ?_)
 refine AC.mono (Q := fun e fr2 H2 => match e with
   | .normal => H2 = eH H b b6 be s ty (i + 1 + k) [.int .i64 pg, .str n, .str [], .bool false, .nils] ∧ nameOk n = true ∧ Agrees fr2 [(0, .ptr b 0), (2, .int .i64 deep), (6, .ptr b6 0), (9, .ptr be 0)]
   | .panic d => d = fault ((i + 1 : Nat) : Int) 14 ∧ H2 = eH H b b6 be s ty (i + 1 + k) [.int .i64 pg, .str n, .str [], .bool false, .nils] ∧ nameOk n = false
   | _ => False) (AC.reg ?_) ?_
 · refine go1 ?_
   refine RG.ld .d wh eH_be (d := .str n) rfl ?_
   cases n with
   | nil =>
     refine go ?_
     exact RG.call .d rfl (need_ok false _ 14 _) (fun d H5 ⟨k1, _⟩ => by cases k1) (fun d H5 ⟨_, k2, k3⟩ => ⟨k2, k3, rfl⟩)
   | cons c l =>
     refine RG.p (d := .bool true) .d rfl ?_
     refine go1 ?_
     refine go1 ?_
     refine RG.ld .d wh eH_be (d := .str (c :: l)) rfl ?_
     refine RG.at (b := c) .d wh wh (by omega) rfl ?_
     refine RG.callP .d rfl (letter_ok c) ?_
     refine go ?_
     cases e1 : isLetter c
     · refine go ?_
       exact RG.call .d rfl (need_ok false _ 14 _) (fun d H5 ⟨k1, _⟩ => by cases k1) (fun d H5 ⟨_, k2, k3⟩ => ⟨k2, k3, by rw [nameOk, e1]; rfl⟩)
     · refine go1 ?_
       refine RG.ld .d wh eH_be (d := .str (c :: l)) rfl ?_
       refine go ?_
       exact RG.call .d rfl (need_ok (decide ((((c :: l).length : Nat) : Int) ≤ 32)) _ 14 _) (fun d H5 ⟨k1, k2, k3⟩ => RG.nil ⟨k3, by rw [nameOk, e1, k1]; rfl, rfl, rfl, rfl, rfl, trivial⟩) (fun d H5 ⟨k1, k2, k3⟩ => ⟨k2, k3, by rw [nameOk, e1, k1]; rfl⟩)
 rintro e fr2 H2 hq
 cases e with
 | exit id => exact hq.elim
 | ret => exact hq.elim
 | panic d =>
   obtain ⟨k1, k2, k3⟩ := hq
   subst k1; subst k2
   rw [k3] at hR
   exact bad (e := (((i + 1 : Nat) : Int), 14)) hR.symm (by first | omega | (simp; omega))
 | normal =>
 obtain ⟨k1, k2, k3⟩ := hq
 subst k1
 rw [k2, Bool.not_true, cond_false] at hR
 refine AC.to _ k3 (AC.seq (AC.reg ?_))
 refine go ?_
 refine RG.nilS (AC.seq (AC.skip (AC.seq ?_)))
 have hEb : ∀ j cs, eH H b b6 be s ty j cs b = rd s j ty := fun j cs => eH_b hbe'
 have done : ∀ {j : Nat} {cs : List DV} {x : El} {fr : Fr}, fr 6 = .ptr b6 0 → cs.length = 5 → DLes cs (elC x) → R = .ok (x, j) → Fin F53.rs (Kr1 R (fun v => .agg (elC v.1)) (·.2) s b ty H) (Kp1 R s b ty H) .ret fr ((eH H b b6 be s ty j cs).upd b6 (some (.cells cs elT))) := by
  intro j cs x fr h6 hl hle hx
  refine finL (ds := [.agg cs]) (d := .agg (elC x)) (H' := H.upd b (rd s j ty)) ?_ hle.agg (SubH.over (eH_sub h6b heb he6 hb6 hbe) (by rw [Hp.upd_ne h6b]; exact hb6)) ⟨(x, j), hx, rfl, rfl⟩
  have hld : ldD ((eH H b b6 be s ty j cs).upd b6 (some (.cells cs elT))) true 5 (.ptr b6 0) = some (.agg cs) := by
   unfold ldD
   dsimp only
   rw [Hp.upd_same]
   dsimp only
   unfold partD
   rw [if_pos rfl, if_pos (by omega), List.drop_zero, List.take_of_length_le (by omega)]
  show (ldD ((eH H b b6 be s ty j cs).upd b6 (some (.cells cs elT))) true 5 (fr 6)).bind _ = _
  rw [h6, hld]; rfl
 generalize hRA : attrsF s (s.length + 1) (i + 1 + k) pg false false = RA at hR
 have hRAp : ∀ c j p y, RA = .ok (c, j, p, y) → j ≤ s.length := fun c j p y h => (attrsF_prog _ _ _ _ _ _ _ _ _ (hRA.trans h) (by omega)).2
 refine AC.bloopH (α := Nat × Nat × Int × Bool × Bool) (β := Nat × Int × Bool) (fun a => a.1) (fun a => [(0, .ptr b 0), (2, .int .i64 deep), (6, .ptr b6 0), (9, .ptr be 0), (10, .bool a.2.2.2.1), (11, .bool a.2.2.2.2)])
  (fun a H' => H' = eH H b b6 be s ty a.2.1 [.int .i64 a.2.2.1, .str n, .str [], .bool false, .nils] ∧ attrsF s a.1 a.2.1 a.2.2.1 a.2.2.2.1 a.2.2.2.2 = RA ∧ a.2.1 ≤ s.length ∧ s.length < a.2.1 + a.1)
  (fun a => [(0, .ptr b 0), (2, .int .i64 deep), (6, .ptr b6 0), (9, .ptr be 0), (11, .bool a.2.2)]) (fun a H' => H' = eH H b b6 be s ty a.1 [.int .i64 a.2.1, .str n, .str [], .bool false, .nils] ∧ RA = .ok (false, a.1, a.2.1, a.2.2))
  ?_ ?_ (s.length + 1, i + 1 + k, pg, false, false) _ ⟨rfl, hRA, by dsimp only; omega, by dsimp only; omega⟩ ⟨rfl, rfl, rfl, rfl, rfl, rfl, trivial⟩
 · rintro ⟨j, p, y⟩ He fr ⟨h1, h2⟩ hfr
   dsimp only at h1 h2 hfr
   subst h1
   have hj := hRAp _ _ _ _ h2
   rw [h2] at hR
   dsimp only at hR
   refine AC.to _ hfr (AC.seq (AC.reg ?_))
   refine go ?_
   generalize hRW : withinF s (kid p) more (s.length + 1) j [] [] = RW at hR
   have hwc := within_call hG (deep := deep) (kid := kid p) (more := more) (hEb j [.int .i64 p, .str n, .str [], .bool false, .nils]) eH_be hbe' hj (by omega) hd hm (hprog p) (fun h => hkid h p)
   rw [hRW] at hwc
   refine RG.call .d rfl hwc (fun d H2 ⟨t, ks, m, K, w1, w2, w3, w4⟩ => ?_) (fun d H2 ⟨e, m, w1, w2, w3, w4⟩ => ?_)
   rotate_left
   · subst w2; subst w4
     rw [w1] at hR
     refine bad1 hR.symm w3 ?_
     have hx : (eH H b b6 be s ty j [.int .i64 p, .str n, .str [], .bool false, .nils]).upd be none = (H.upd b6 (some (.cells Z5 elT))).upd b (rd s j ty) := by
      rw [eH, Hp.upd_upd]
      exact Hp.upd_id (by rw [Hp.upd_ne heb, Hp.upd_ne he6]; exact hbe)
     rw [hx, Hp.upd_upd]
     exact sub6 m
   subst w2
   have hx : (((eH H b b6 be s ty j [.int .i64 p, .str n, .str [], .bool false, .nils]).upd be none).upd b (rd s m ty)).upd be (some (.cells [.int .i64 p, .str n, .str [], .bool false, K] elT)) = eH H b b6 be s ty m [.int .i64 p, .str n, .str [], .bool false, K] := by
    rw [eH, Hp.upd_upd, Hp.upd_comm heb, Hp.upd_upd, Hp.upd_upd]; rfl
   rw [hx] at w4
   subst w4
   rw [w1] at hR
   dsimp only at hR
   have hwp := withinF_prog (hprog p) _ _ _ _ _ _ _ (hRW.trans w1) hj trivial (by simp)
   refine go ?_
   refine RG.nilS (AC.seq (AC.reg ?_))
   refine go1 ?_
   refine go1 ?_
   refine go1 ?_
   refine RG.ld .d wh (hEb _ _) (d := .int .i64 m) rfl ?_
   refine RG.p (d := .int .i64 ((m - 2 : Nat) : Int)) .d (by
    show some (DV.int .i64 (IntKind.i64.wrap ((m : Int) - 2))) = _
    rw [IntWalk.i64_in _ (by omega)]; congr 2; omega) ?_
   refine go ?_
   refine RG.nilS (AC.seq (AC.reg ?_))
   refine go1 ?_
   refine go1 ?_
   refine RG.ld .d wh eH_be (d := .str n) rfl ?_
   refine RG.call .d rfl (close_ok (hEb _ _) hwp.2.1 (by omega)) (fun d H2 ⟨q, c1, c2, c3⟩ => ?_) (fun d H2 ⟨e, q, c1, c2, c3, c4⟩ => ?_)
   rotate_left
   · subst c2; subst c4
     rw [c1] at hR
     rw [eH_setb hbe']
     exact bad hR.symm c3
   subst c2
   rw [eH_setb hbe'] at c3
   subst c3
   rw [c1] at hR
   dsimp only [id] at hR ⊢
   have hcp := closeF_prog c1
   have tailp : ∀ {t2 : List UInt8} {o2 : Bool} {fr : Fr}, fr 6 = .ptr b6 0 → fr 9 = .ptr be 0 → R = .ok (.mk p n t2 o2 ks, q) →
     AC prog G none F53.N (.seq (.reg [ji 151 (.ld true 5 (.t 9)), jn (.st 5 (.t 6) (.t 151))]) .ret) (Fin F53.rs (Kr1 R (fun v => .agg (elC v.1)) (·.2) s b ty H) (Kp1 R s b ty H)) fr (eH H b b6 be s ty q [.int .i64 p, .str n, .str t2, .bool o2, K]) := by
    intro t2 o2 fr f6 f9 hx
    refine AC.to [(6, .ptr b6 0), (9, .ptr be 0)] ⟨f6, f9, trivial⟩ (AC.seq (AC.reg ?_))
    refine RG.ld .d wh eH_be (d := .agg [.int .i64 p, .str n, .str t2, .bool o2, K]) rfl ?_
    refine RG.sto (cs := Z5) (ty := elT) (ys := [.int .i64 p, .str n, .str t2, .bool o2, K]) .d wh (eH_b6 h6b (Ne.symm he6)) wh rfl rfl (by exact Nat.le_refl _) ?_
    have hsp6 : spliceL 0 [.int .i64 p, .str n, .str t2, .bool o2, K] Z5 = [.int .i64 p, .str n, .str t2, .bool o2, K] := rfl
    rw [hsp6]
    exact RG.nilS (AC.ret (done rfl rfl w3.les hx))
   refine RG.nilS (AC.seq (AC.block (AC.seq (AC.reg ?_))))
   refine go1 ?_
   refine RG.ld .d wh eH_be (d := K) rfl ?_
   refine RG.p (d := .int .i64 ks.length) .d w3.len ?_
   refine RG.p (d := .bool (decide (0 < ks.length))) .d (by
    show some (DV.bool (decide ((ks.length : Int) > 0))) = _
    congr 2
    rw [decide_eq_decide]; omega) ?_
   refine go1 ?_
   unfold endF at hR
   have htl : t.length ≤ 4611686018427387904 ∧ t.length ≤ 10000000000000 := by
    have := withinF_len (hprog p) _ _ _ _ _ _ _ (hRW.trans w1) hj
    rw [List.length_nil] at this
    omega
   cases k1 : decide (0 < ks.length)
   case true =>
    rw [k1, cond_true] at hR
    refine RG.nilS (AC.cond_t rfl ?_)
    refine AC.mono (Q := fun e fr2 H2 => match e with
     | .normal => H2 = eH H b b6 be s ty q [.int .i64 p, .str n, .str [], .bool false, K] ∧ (!y && trimF t == []) = true ∧ fr2 6 = .ptr b6 0 ∧ fr2 9 = .ptr be 0
     | .panic d => d = fault ((m - 2 : Nat) : Int) 7 ∧ H2 = eH H b b6 be s ty q [.int .i64 p, .str n, .str [], .bool false, K] ∧ (!y && trimF t == []) = false
     | _ => False) (AC.reg ?_) ?_
    · refine go ?_
      cases y
      · refine go ?_
        refine RG.callP .d rfl (trim_ok' t htl.1) ?_
        refine go ?_
        exact RG.call .d rfl (need_ok (trimF t == []) _ 7 _) (fun d H5 ⟨a1, a2, a3⟩ => RG.nil ⟨a3, by rw [a1]; rfl, rfl, rfl⟩) (fun d H5 ⟨a1, a2, a3⟩ => ⟨a2, a3, by rw [a1]; rfl⟩)
      · refine go ?_
        exact RG.call .d rfl (need_ok false _ 7 _) (fun d H5 ⟨a1, _⟩ => by cases a1) (fun d H5 ⟨_, a2, a3⟩ => ⟨a2, a3, rfl⟩)
    rintro e fr2 H2 hq
    cases e with
    | exit id => exact hq.elim
    | ret => exact hq.elim
    | panic d =>
      obtain ⟨a1, a2, a3⟩ := hq
      subst a1; subst a2
      rw [a3] at hR
      exact bad (e := (((m - 2 : Nat) : Int), 7)) hR.symm hcp.2
    | normal =>
      obtain ⟨a1, a2, a3, a4⟩ := hq
      subst a1
      rw [a2] at hR
      exact tailp a3 a4 hR.symm
   rw [k1, cond_false] at hR
   have hks : ks = [] := by
    have := of_decide_eq_false k1
    exact List.eq_nil_of_length_eq_zero (by omega)
   subst hks
   refine RG.nilS (AC.cond_f rfl (AC.seq (AC.reg ?_)))
   refine go ?_
   cases y
   · rw [cond_false] at hR
     refine RG.nilS (AC.cond_f rfl (AC.reg ?_))
     refine go1 ?_
     refine go1 ?_
     refine RG.sto (cs := [.int .i64 p, .str n, .str [], .bool false, K]) (ty := elT) (ys := [.str t]) .d wh eH_be wh rfl rfl (by exact Nat.le_of_ble_eq_true rfl) ?_
     rw [eH_setbe]
     exact RG.nil (tailp rfl rfl hR.symm)
   · rw [cond_true] at hR
     refine RG.nilS (AC.cond_t rfl (AC.seq (AC.reg ?_)))
     refine go1 ?_
     refine RG.callP .d rfl (Decode_ok t htl.2) ?_
     refine go ?_
     refine RG.nilS (AC.seq (AC.reg ?_))
     refine go1 ?_
     refine RG.p (d := .bool ((decF t).2 == 0)) .d rfl ?_
     refine go1 ?_
     refine go1 ?_
     refine RG.call .d rfl (need_ok ((decF t).2 == 0) _ (decF t).2 _) (fun d H5 ⟨a1, a2, a3⟩ => ?_) (fun d H5 ⟨a1, a2, a3⟩ => ?_)
     rotate_left
     · subst a2; subst a3
       rw [a1] at hR
       exact bad (e := (((m - 2 : Nat) : Int), (decF t).2)) hR.symm hcp.2
     subst a2; subst a3
     rw [a1] at hR
     refine RG.nilS (AC.reg ?_)
     refine go1 ?_
     refine go1 ?_
     refine RG.p (d := .bool (!((decF t).1 == []))) .d rfl ?_
     refine go1 ?_
     refine RG.sto (cs := [.int .i64 p, .str n, .str [], .bool false, K]) (ty := elT) (ys := [.str (decF t).1]) .d wh eH_be wh rfl rfl (by exact Nat.le_of_ble_eq_true rfl) ?_
     rw [eH_setbe]
     refine go1 ?_
     refine RG.sto (cs := [.int .i64 p, .str n, .str (decF t).1, .bool false, K]) (ty := elT) (ys := [.bool (!((decF t).1 == []))]) .d wh eH_be wh rfl rfl (by exact Nat.le_of_ble_eq_true rfl) ?_
     rw [eH_setbe]
     exact RG.nil (tailp rfl rfl hR.symm)
 · rintro ⟨f, j, p, nm, y⟩ H' ⟨h1, hA, hj, hf⟩ ih ex
   dsimp only at h1 hA hj hf ih
   subst h1
   obtain ⟨f, rfl⟩ : ∃ f', f = f' + 1 := ⟨f - 1, by omega⟩
   rw [attrsF] at hA
   try dsimp only at hA
   have hw := wsN_le (s.drop j)
   rw [List.length_drop] at hw
   have again : ∀ {j2 : Nat} {p2 : Int} {nm2 y2 : Bool}, attrsF s f j2 p2 nm2 y2 = RA → j < j2 → j2 ≤ s.length → ∀ fr, Agrees fr [(0, .ptr b 0), (2, .int .i64 deep), (6, .ptr b6 0), (9, .ptr be 0), (10, .bool nm2), (11, .bool y2)] → _ :=
    fun {j2 p2 nm2 y2} h1 h2 h3 fr hfr => ih (f, j2, p2, nm2, y2) _ ⟨rfl, h1, h3, by dsimp only; omega⟩ (by dsimp only; omega) fr hfr
   refine AC.block (AC.seq (AC.reg ?_))
   refine go1 ?_
   refine RG.callR .d rfl (space_ok (hEb _ _) hj (by omega)) ?_
   rw [eH_setb hbe']
   generalize hwj : wsN (s.drop j) = w at hA hw
   refine go ?_
   refine RG.nilS (AC.seq (AC.reg ?_))
   refine go1 ?_
   refine go1 ?_
   refine go1 ?_
   refine RG.ld .d wh (hEb _ _) (d := .int .i64 ((j + w : Nat) : Int)) rfl ?_
   refine go ?_
   refine RG.nilS ?_
   refine AC.to [(0, .ptr b 0), (2, .int .i64 deep), (6, .ptr b6 0), (8, .int .i64 ((j + w : Nat) : Int)), (9, .ptr be 0), (10, .bool nm), (11, .bool y), (12, .bool (decide (0 < w)))] ⟨rfl, rfl, rfl, rfl, rfl, rfl, rfl, rfl, trivial⟩ ?_
   refine AC.block (AC.seq (AC.reg ?_))
   refine go1 ?_
   refine RG.callR .d rfl (has_ok (t := [47, 62]) (hEb _ _) (by omega) (by simp; omega)) ?_
   rw [eH_setb hbe']
   cases e1 : List.isPrefixOf [47, 62] (s.drop (j + w))
   case true =>
    rw [e1, cond_true] at hA
    rw [← hA] at hR
    dsimp only at hR
    refine go ?_
    refine RG.nilS (AC.cond_t rfl (AC.seq (AC.reg ?_)))
    refine RG.ld .d wh eH_be (d := .agg [.int .i64 p, .str n, .str [], .bool false, .nils]) rfl ?_
    refine RG.sto (cs := Z5) (ty := elT) (ys := [.int .i64 p, .str n, .str [], .bool false, .nils]) .d wh (eH_b6 h6b (Ne.symm he6)) wh rfl rfl (by exact Nat.le_refl _) ?_
    have hsp6 : spliceL 0 [.int .i64 p, .str n, .str [], .bool false, .nils] Z5 = [.int .i64 p, .str n, .str [], .bool false, .nils] := rfl
    rw [hsp6]
    exact RG.nilS (AC.ret (done (x := .mk p n [] false []) rfl rfl (KD.les (.inl ⟨rfl, rfl⟩)) hR.symm))
   rw [e1, cond_false] at hA
   refine go ?_
   refine RG.nilS (AC.cond_f rfl (AC.seq (AC.reg ?_)))
   refine go1 ?_
   refine RG.callR .d rfl (has_ok (t := [62]) (hEb _ _) (by simp; omega) (by simp; omega)) ?_
   rw [eH_setb hbe', cond_false]
   cases e2 : List.isPrefixOf [62] (s.drop (j + w))
   case true =>
    rw [e2, cond_true] at hA
    refine go ?_
    refine RG.nilS (AC.cond_t rfl (AC.exit ?_))
    exact ex (j + w + 1, p, y) _ _ ⟨rfl, hA.symm⟩ ⟨rfl, rfl, rfl, rfl, rfl, trivial⟩
   rw [e2, cond_false] at hA
   refine go ?_
   refine RG.nilS (AC.cond_f rfl (AC.seq (AC.reg ?_)))
   refine go ?_
   cases e3 : decide (0 < w)
   case false =>
    rw [e3] at hA
    rw [← hA] at hR
    simp only [Bool.not_false, cond_true] at hR
    refine RG.nilS (AC.cond_t rfl (AC.reg ?_))
    refine go1 ?_
    refine RG.call .d rfl (need_ok false _ 3 _) (fun d H5 ⟨a1, _⟩ => by cases a1) (fun d H5 ⟨_, a2, a3⟩ => ?_)
    subst a2; subst a3
    exact bad (e := (((j + w : Nat) : Int), 3)) hR.symm (by first | omega | (simp; omega))
   rw [e3, Bool.not_true, cond_false] at hA
   refine RG.nilS (AC.cond_f rfl (AC.seq (AC.reg ?_)))
   refine go1 ?_
   refine RG.callR .d rfl (has_ok (t := spaceMark) (hEb _ _) (by simp; omega) (by simp [spaceMark]; omega)) ?_
   rw [eH_setb hbe', cond_false]
   cases e4 : List.isPrefixOf spaceMark (s.drop (j + w))
   case true =>
    rw [e4, cond_true] at hA
    have hpl := prefix_le e4 (by simp [spaceMark])
    have h7 : spaceMark.length = 7 := rfl
    rw [h7] at hpl
    rw [cond_true, h7]
    refine go ?_
    refine RG.nilS (AC.cond_t rfl (AC.seq (AC.reg ?_)))
    refine go ?_
    refine RG.call .d rfl (need_ok (!nm) _ 11 _) (fun d H5 ⟨a1, a2, a3⟩ => ?_) (fun d H5 ⟨a1, a2, a3⟩ => ?_)
    rotate_left
    · subst a2; subst a3
      have a1' : nm = true := by simpa using a1
      rw [a1'] at hA
      rw [← hA] at hR
      exact bad (e := (((j + w : Nat) : Int), 11)) hR.symm (by first | omega | (simp; omega))
    subst a2; subst a3
    have a1' : nm = false := by simpa using a1
    rw [a1', cond_false] at hA
    refine RG.nilS (AC.seq (AC.reg ?_))
    refine go ?_
    refine RG.nilS (AC.seq (AC.reg ?_))
    refine go1 ?_
    refine RG.call .d rfl (upto_ok' hG (t := [34]) (hEb _ _) hpl (by simp; omega)) (fun d H3 ⟨⟨v, k2⟩, u1, u2, u3⟩ => ?_) (fun d H3 ⟨e, k2, u1, u2, u3, u4⟩ => ?_)
    rotate_left
    · subst u2; subst u4
      rw [u1] at hA
      rw [← hA] at hR
      rw [eH_setb hbe']
      exact bad hR.symm u3
    subst u2
    rw [eH_setb hbe'] at u3
    subst u3
    rw [u1] at hA
    dsimp only at hA
    have hup := uptoF_prog u1 hpl
    refine RG.callP .d rfl (Page_ok v) ?_
    refine go1 ?_
    refine RG.sto (cs := [.int .i64 p, .str n, .str [], .bool false, .nils]) (ty := elT) (ys := [.int .i64 (pageOf v)]) .d wh eH_be wh rfl rfl (by exact Nat.le_of_ble_eq_true rfl) ?_
    rw [eH_setbe]
    refine RG.nilS (AC.reg ?_)
    refine go1 ?_
    refine RG.ld .d wh eH_be (d := .int .i64 (pageOf v)) rfl ?_
    refine go ?_
    refine RG.call .d rfl (need_ok (decide (pageOf v ≥ 0)) _ 5 _) (fun d H5 ⟨a1, a2, a3⟩ => ?_) (fun d H5 ⟨a1, a2, a3⟩ => ?_)
    rotate_left
    · subst a2; subst a3
      rw [a1] at hA
      rw [← hA] at hR
      exact bad (e := (((j + w : Nat) : Int), 5)) hR.symm hup.2
    subst a2; subst a3
    rw [a1, cond_true] at hA
    exact RG.nil (again hA (by omega) hup.2 _ ⟨rfl, rfl, rfl, rfl, rfl, rfl, trivial⟩)
   rw [e4, cond_false] at hA
   rw [cond_false]
   refine go ?_
   refine RG.nilS (AC.cond_f rfl (AC.seq (AC.reg ?_)))
   refine go1 ?_
   refine RG.callR .d rfl (has_ok (t := codeMark) (hEb _ _) (by omega) (by simp [codeMark]; omega)) ?_
   rw [eH_setb hbe']
   cases e5 : List.isPrefixOf codeMark (s.drop (j + w))
   case true =>
    rw [e5, cond_true] at hA
    have hpl := prefix_le e5 (by simp [codeMark])
    have h7 : codeMark.length = 5 := rfl
    rw [h7] at hpl
    rw [cond_true, h7]
    refine go ?_
    refine RG.nilS (AC.cond_t rfl (AC.seq (AC.reg ?_)))
    refine go ?_
    refine RG.call .d rfl (need_ok (!y) _ 11 _) (fun d H5 ⟨a1, a2, a3⟩ => ?_) (fun d H5 ⟨a1, a2, a3⟩ => ?_)
    rotate_left
    · subst a2; subst a3
      have a1' : y = true := by simpa using a1
      rw [a1'] at hA
      rw [← hA] at hR
      exact bad (e := (((j + w : Nat) : Int), 11)) hR.symm (by first | omega | (simp; omega))
    subst a2; subst a3
    have a1' : y = false := by simpa using a1
    rw [a1', cond_false] at hA
    refine RG.nilS (AC.seq (AC.reg ?_))
    refine go ?_
    refine RG.nilS (AC.reg ?_)
    refine go1 ?_
    refine RG.call .d rfl (upto_ok' hG (t := [34]) (hEb _ _) hpl (by simp; omega)) (fun d H3 ⟨⟨v, k2⟩, u1, u2, u3⟩ => ?_) (fun d H3 ⟨e, k2, u1, u2, u3, u4⟩ => ?_)
    rotate_left
    · subst u2; subst u4
      rw [u1] at hA
      rw [← hA] at hR
      rw [eH_setb hbe']
      exact bad hR.symm u3
    subst u2
    rw [eH_setb hbe'] at u3
    subst u3
    rw [u1] at hA
    dsimp only at hA
    have hup := uptoF_prog u1 hpl
    refine RG.p (d := .bool (v == b64)) .d rfl ?_
    refine go1 ?_
    refine RG.call .d rfl (need_ok (v == b64) _ 5 _) (fun d H5 ⟨a1, a2, a3⟩ => ?_) (fun d H5 ⟨a1, a2, a3⟩ => ?_)
    rotate_left
    · subst a2; subst a3
      rw [a1] at hA
      rw [← hA] at hR
      exact bad (e := (((j + w : Nat) : Int), 5)) hR.symm hup.2
    subst a2; subst a3
    rw [a1, cond_true] at hA
    exact RG.nil (again hA (by omega) hup.2 _ ⟨rfl, rfl, rfl, rfl, rfl, rfl, trivial⟩)
   rw [e5, cond_false] at hA
   rw [cond_false]
   rw [← hA] at hR
   refine go ?_
   refine RG.nilS (AC.cond_f rfl (AC.reg ?_))
   refine go1 ?_
   refine RG.call .d rfl (need_ok false _ 3 _) (fun d H5 ⟨a1, _⟩ => by cases a1) (fun d H5 ⟨_, a2, a3⟩ => ?_)
   subst a2; subst a3
   exact bad (e := (((j + w : Nat) : Int), 3)) hR.symm (by first | omega | (simp; omega))
theorem elem_ok (hG : GOK G) {s : List UInt8} {ty : TypeId} {b : Nat} (hs : s.length ≤ 100000) : ∀ (d deep : Nat), deep + d = 12 → ∀ (pg : Int) (i : Nat) (H : Hp), H b = rd s i ty → i ≤ s.length →
  CALL prog G 53 [.ptr b 0, .int .i64 pg, .int .i64 deep] H (Kr1 (elemF s d pg i) (fun v => .agg (elC v.1)) (·.2) s b ty H) (Kp1 (elemF s d pg i) s b ty H)
 | 0, deep, hd, pg, i, H, hb, hi => elem_step hG hs (by omega) (by simp; omega) (fun p i x j _ h => by cases h) (fun h => by omega) pg i H hb hi
 | d + 1, deep, hd, pg, i, H, hb, hi => elem_step hG hs (by omega) (by simp; omega) (fun p i x j => elemF_prog d p i x j) (fun _ p i' HH h1 h2 => elem_ok hG hs d (deep + 1) (by omega) p i' HH h1 h2) pg i H hb hi
open Go Go.Run
def digL : Nat → Nat → List UInt8
 | 0, _ => []
 | f + 1, n => (bif n / 10 == 0 then [] else digL f (n / 10)) ++ [UInt8.ofNat (48 + n % 10)]
def digF (n : Int) : List UInt8 := (bif decide (n < 0) then [45] else []) ++ digL 20 n.natAbs
def figGo : List UInt8 → Int → Int × Int
 | [], n => (n, 0)
 | c :: l, n => bif decide (c < 48) || decide (c > 57) then (0, 3) else
   bif decide (10 * n + (c.toNat - 48 : Int) > 268435456) then (0, 2) else figGo l (10 * n + (c.toNat - 48 : Int))
def figF : List UInt8 → Int × Int
 | [] => (0, 1)
 | c :: l => bif decide (0 < l.length) && c == 48 then (0, 3) else figGo (c :: l) 0
theorem digit_at (k : Nat) (h : k < 10) : (UInt8.ofNat (48 + k)).toNat = 48 + k := by
 rw [UInt8.toNat_ofNat']; omega
theorem numGo_dig : ∀ (f n : Nat) (r : List UInt8), n < 10 ^ f → n ≤ 268435456 → figGo (digL f n ++ r) 0 = bif f == 0 then figGo r 0 else figGo r (n : Nat)
 | 0, n, r, _, _ => rfl
 | f + 1, n, r, h, h2 => by
   have hd := digit_at (n % 10) (Nat.mod_lt _ (by decide))
   have last : ∀ m : Int, m = ((n / 10 : Nat) : Int) → figGo ([UInt8.ofNat (48 + n % 10)] ++ r) m = figGo r (n : Nat) := by
    intro m hm
    have c1 : decide (UInt8.ofNat (48 + n % 10) < 48) = false := by
     rw [decide_eq_false_iff_not, UInt8.lt_iff_toNat_lt, hd]; simp
    have c2 : decide (UInt8.ofNat (48 + n % 10) > 57) = false := by
     rw [decide_eq_false_iff_not, gt_iff_lt, UInt8.lt_iff_toNat_lt, hd]
     show ¬ (57 < _)
     omega
    have e : 10 * m + ((UInt8.ofNat (48 + n % 10)).toNat - 48 : Int) = (n : Nat) := by rw [hd, hm]; omega
    have c3 : decide (10 * m + ((UInt8.ofNat (48 + n % 10)).toNat - 48 : Int) > 268435456) = false := by rw [e]; simp; omega
    rw [List.singleton_append, figGo, c1, c2, Bool.or_self, cond_false, c3, cond_false, e]
   have hf : (f + 1 == 0) = false := by simp
   rw [hf, cond_false, digL]
   cases e : n / 10 == 0
   · have e' : n / 10 ≠ 0 := by simpa using e
     rw [cond_false, List.append_assoc, numGo_dig f (n / 10) _ (by rw [Nat.pow_succ] at h; omega) (by omega)]
     have : (f == 0) = false := by
      rw [beq_eq_false_iff_ne]
      rintro rfl
      simp at h; omega
     rw [this, cond_false]
     exact last _ rfl
   · have e' : n / 10 = 0 := by simpa using e
     rw [cond_true, List.nil_append]
     exact last _ (by rw [e']; rfl)
theorem digL_ne (f n : Nat) (hf : 0 < f) : digL f n ≠ [] := by
 cases f with
 | zero => omega
 | succ f => rw [digL]; simp
theorem digL_head : ∀ (f n : Nat), 0 < n → n < 10 ^ f → ∀ c l, digL f n = c :: l → c ≠ 48
 | 0, n, h, h2, c, l, e => by simp at h2; omega
 | f + 1, n, h, h2, c, l, e => by
   rw [digL] at e
   cases e0 : n / 10 == 0
   · have e' : n / 10 ≠ 0 := by simpa using e0
     rw [e0, cond_false] at e
     cases hd : digL f (n / 10) with
     | nil =>
       have : 0 < f := by
        cases f with
        | zero => simp at h2; omega
        | succ f => omega
       exact absurd hd (digL_ne f _ this)
     | cons c' l' =>
       rw [hd, List.cons_append] at e
       cases e
       exact digL_head f (n / 10) (by omega) (by rw [Nat.pow_succ] at h2; omega) _ _ hd
   · have e' : n / 10 = 0 := by simpa using e0
     rw [e0, cond_true, List.nil_append] at e
     cases e
     intro hc
     have := congrArg UInt8.toNat hc
     rw [digit_at _ (Nat.mod_lt _ (by decide))] at this
     have h3 : (48 : UInt8).toNat = 48 := rfl
     omega
theorem num_dig (n : Int) (h0 : 0 ≤ n) (h1 : n ≤ 268435456) : figF (digF n) = (n, 0) := by
 obtain ⟨k, rfl⟩ : ∃ k : Nat, n = (k : Nat) := ⟨n.toNat, by omega⟩
 have hneg : decide (((k : Nat) : Int) < 0) = false := by simp
 have hk : ((k : Nat) : Int).natAbs = k := Int.natAbs_natCast k
 rw [digF, hneg, cond_false, List.nil_append, hk]
 have hlt : k < 10 ^ 20 := by omega
 have hg := numGo_dig 20 k [] hlt (by omega)
 rw [List.append_nil] at hg
 have e20 : ((20 : Nat) == 0) = false := rfl
 rw [e20, cond_false] at hg
 cases hd : digL 20 k with
 | nil => exact absurd hd (digL_ne 20 k (by omega))
 | cons c l =>
   rw [hd] at hg
   rw [figF]
   by_cases hk0 : k = 0
   · subst hk0
     have hl : l = [] := by
      have : digL 20 0 = [48] := rfl
      rw [this] at hd; cases hd; rfl
     subst hl
     exact hg
   · have hne := digL_head 20 k (by omega) hlt c l hd
     have : (c == 48) = false := by simpa using hne
     rw [this, Bool.and_false, cond_false]
     exact hg
theorem digL_len : ∀ (f n : Nat), (digL f n).length ≤ f
 | 0, n => by simp [digL]
 | f + 1, n => by
   rw [digL, List.length_append, List.length_singleton]
   have := digL_len f (n / 10)
   cases n / 10 == 0
   · simp only [cond_false]; omega
   · simp only [cond_true, List.length_nil]; omega
theorem digL_digits : ∀ (f n : Nat), ∀ c ∈ digL f n, 48 ≤ c.toNat ∧ c.toNat ≤ 57
 | 0, n, c, h => by simp [digL] at h
 | f + 1, n, c, h => by
   rw [digL] at h
   rcases List.mem_append.1 h with h | h
   · cases e : n / 10 == 0
     · rw [e, cond_false] at h
       exact digL_digits f _ c h
     · rw [e, cond_true] at h; simp at h
   · have : c = UInt8.ofNat (48 + n % 10) := by simpa using h
     have hd := digit_at (n % 10) (Nat.mod_lt _ (by decide))
     rw [this, hd]; omega
abbrev Frm := List UInt8 × List UInt8
structure Plc where
 ref : List UInt8
 name : List UInt8
 maxId : Int
 takes : List Frm
 gives : List Frm
 kinds : List Int
structure Dvc where
 man : List UInt8
 mod_ : List UInt8
 soft : List UInt8
 id : List UInt8
 type : List UInt8
 large : Bool
 places : List Plc
def frmsC (l : List Frm) : List DV := l.flatMap fun f => [.str f.1, .str f.2]
def plcC (p : Plc) : List DV := [.str p.ref, .str p.name, .int .i64 p.maxId, .lst (frmsC p.takes) p.takes.length 2 none, .lst (frmsC p.gives) p.gives.length 2 none, .lst (p.kinds.map (DV.int .i64)) p.kinds.length 1 none]
def plcsC (l : List Plc) : List DV := l.flatMap plcC
def dvcC (d : Dvc) : List DV := [.str d.man, .str d.mod_, .str d.soft, .str d.id, .str d.type, .bool d.large, .lst (plcsC d.places) d.places.length 6 none]
theorem frmsC_length (l : List Frm) : (frmsC l).length = l.length * 2 := by
 induction l with
 | nil => rfl
 | cons f l ih => rw [frmsC, List.flatMap_cons, List.length_append]; simp only [frmsC] at ih; rw [ih]; simp; omega
theorem plcsC_length (l : List Plc) : (plcsC l).length = l.length * 6 := by
 induction l with
 | nil => rfl
 | cons f l ih => rw [plcsC, List.flatMap_cons, List.length_append]; simp only [plcsC] at ih; rw [ih]; simp [plcC]; omega
theorem rowD {α : Type} {sz : Nat} (f : α → List DV) (hf : ∀ a, (f a).length = sz) : ∀ (l : List α) (i : Nat) (a : α), l[i]? = some a → ((l.flatMap f).drop (i * sz)).take sz = f a
 | [], i, a, h => by simp at h
 | x :: l, 0, a, h => by
   simp at h; subst h
   rw [List.flatMap_cons, Nat.zero_mul, List.drop_zero, ← hf x, List.take_left]
 | x :: l, i + 1, a, h => by
   rw [List.flatMap_cons, Nat.succ_mul, Nat.add_comm, ← List.drop_drop, ← hf x, List.drop_left, hf x]
   exact rowD f hf l i a (by simpa using h)
def wordF (s : List UInt8) : Bool := !(s == []) && decide (((s.length : Nat) : Int) ≤ 60) && shownF s
def maybeF (s : List UInt8) : Bool := s == [] || wordF s
def frmOk (f : Frm) : Bool := wordF f.1 && wordF f.2
def formsF (l : List Frm) : Bool := decide (1 ≤ l.length) && decide (l.length ≤ 6) && l.all frmOk
def kindOk (k : Int) : Bool := decide (1 ≤ k) && decide (k ≤ 99)
def placeF (p : Plc) : Bool := wordF p.ref && maybeF p.name && decide (0 ≤ p.maxId) && decide (p.maxId ≤ 268435456) && formsF p.takes && formsF p.gives && decide (1 ≤ p.kinds.length) && decide (p.kinds.length ≤ 8) && p.kinds.all kindOk
def wordsD (d : Dvc) : Bool := maybeF d.man && maybeF d.mod_ && maybeF d.soft && wordF d.id && wordF d.type
def checkD (d : Dvc) : Int := bif decide (d.places.length < 1) || decide (6 < d.places.length) then 4 else bif !(d.places.all placeF) then 3 else bif !(wordsD d) then 3 else 0
def leafD (n t : List UInt8) : El := .mk 2 n t false []
def nodeD (n : List UInt8) (ks : List El) : El := .mk 2 n [] false ks
def sayD (n t : List UInt8) : List El := bif t == [] then [] else [leafD n t]
def nDTD : List UInt8 := [86, 101, 114, 68, 84, 68]
def nMan : List UInt8 := [77, 97, 110]
def nMod : List UInt8 := [77, 111, 100]
def nSwV : List UInt8 := [83, 119, 86]
def nDevID : List UInt8 := [68, 101, 118, 73, 68]
def nDevTyp : List UInt8 := [68, 101, 118, 84, 121, 112]
def nLarge : List UInt8 := [83, 117, 112, 112, 111, 114, 116, 76, 97, 114, 103, 101, 79, 98, 106, 115]
def nStore : List UInt8 := [68, 97, 116, 97, 83, 116, 111, 114, 101]
def nRef : List UInt8 := [83, 111, 117, 114, 99, 101, 82, 101, 102]
def nDisp : List UInt8 := [68, 105, 115, 112, 108, 97, 121, 78, 97, 109, 101]
def nMax : List UInt8 := [77, 97, 120, 71, 85, 73, 68, 83, 105, 122, 101]
def nRx : List UInt8 := [82, 120]
def nTx : List UInt8 := [84, 120]
def nPref : List UInt8 := [80, 114, 101, 102]
def nCap : List UInt8 := [83, 121, 110, 99, 67, 97, 112]
def nSync : List UInt8 := [83, 121, 110, 99, 84, 121, 112, 101]
def nCT : List UInt8 := [67, 84, 84, 121, 112, 101]
def nVer : List UInt8 := [86, 101, 114, 67, 84]
def nDev : List UInt8 := [68, 101, 118, 73, 110, 102]
def dtdF : List UInt8 := [49, 46, 50]
def formD (n : List UInt8) (f : Frm) : El := nodeD n [leafD nCT f.1, leafD nVer f.2]
def toldD (n : List UInt8) : List Frm → List El
 | [] => []
 | f :: l => formD (n ++ nPref) f :: l.map (formD n)
def maxD (n : Int) : List El := bif n == 0 then [] else sayD nMax (digF n)
def kindD (k : Int) : El := leafD nSync (digF k)
def storeD (p : Plc) : El := nodeD nStore (sayD nRef p.ref ++ sayD nDisp p.name ++ maxD p.maxId ++ toldD nRx p.takes ++ toldD nTx p.gives ++ [nodeD nCap (p.kinds.map kindD)])
def elemD (d : Dvc) : El := nodeD nDev (sayD nDTD dtdF ++ sayD nMan d.man ++ sayD nMod d.mod_ ++ sayD nSwV d.soft ++ sayD nDevID d.id ++ sayD nDevTyp d.type ++ (bif d.large then [nodeD nLarge []] else []) ++ d.places.map storeD)
def elemDF (d : Dvc) : El × Int := bif checkD d == 0 then (elemD d, 0) else (El0, checkD d)
def kidsF (e : List El) (n : List UInt8) : List El := e.filter fun k => k.name == n
def textF (e : List El) (n : List UInt8) : List UInt8 := match kidsF e n with
 | [] => []
 | k :: _ => k.text
def heardD (ks : List El) (n : List UInt8) : List Frm := (ks.filter fun k => k.name == n || k.name == n ++ nPref).map fun k => (textF k.kids nCT, textF k.kids nVer)
def kindsD (ks : List El) : List Int := (kidsF ks nCap).flatMap fun c => (kidsF c.kids nSync).map fun s => (figF s.text).1
def plcD (k : El) : Plc := ⟨textF k.kids nRef, textF k.kids nDisp, (figF (textF k.kids nMax)).1, heardD k.kids nRx, heardD k.kids nTx, kindsD k.kids⟩
def dvcD (e : El) : Dvc := ⟨textF e.kids nMan, textF e.kids nMod, textF e.kids nSwV, textF e.kids nDevID, textF e.kids nDevTyp, decide (0 < (kidsF e.kids nLarge).length), (kidsF e.kids nStore).map plcD⟩
def Dvc0 : Dvc := ⟨[], [], [], [], [], false, []⟩
def rulesB : List UInt8 := [10, 48, 32, 83, 121, 110, 99, 77, 76, 32, 83, 121, 110, 99, 72, 100, 114, 32, 83, 121, 110, 99, 66, 111, 100, 121, 10, 48, 32, 83, 121, 110, 99, 72, 100, 114, 32, 86, 101, 114, 68, 84, 68, 32, 86, 101, 114, 80, 114, 111, 116, 111, 32, 83, 101, 115, 115, 105, 111, 110, 73, 68, 32, 77, 115, 103, 73, 68, 32, 84, 97, 114, 103, 101, 116, 32, 83, 111, 117, 114, 99, 101, 32, 67, 114, 101, 100, 63, 32, 77, 101, 116, 97, 63, 10, 48, 32, 83, 121, 110, 99, 66, 111, 100, 121, 32, 65, 108, 101, 114, 116, 124, 71, 101, 116, 124, 77, 97, 112, 124, 80, 117, 116, 124, 82, 101, 115, 117, 108, 116, 115, 124, 83, 116, 97, 116, 117, 115, 124, 83, 121, 110, 99, 42, 32, 70, 105, 110, 97, 108, 63, 10, 48, 32, 65, 108, 101, 114, 116, 32, 67, 109, 100, 73, 68, 32, 68, 97, 116, 97, 63, 32, 73, 116, 101, 109, 42, 10, 48, 32, 83, 121, 110, 99, 32, 67, 109, 100, 73, 68, 32, 84, 97, 114, 103, 101, 116, 63, 32, 83, 111, 117, 114, 99, 101, 63, 32, 77, 101, 116, 97, 63, 32, 78, 117, 109, 98, 101, 114, 79, 102, 67, 104, 97, 110, 103, 101, 115, 63, 32, 65, 100, 100, 124, 68, 101, 108, 101, 116, 101, 124, 82, 101, 112, 108, 97, 99, 101, 42, 10, 48, 32, 65, 100, 100, 32, 67, 109, 100, 73, 68, 32, 77, 101, 116, 97, 63, 32, 73, 116, 101, 109, 43, 10, 48, 32, 82, 101, 112, 108, 97, 99, 101, 32, 67, 109, 100, 73, 68, 32, 77, 101, 116, 97, 63, 32, 73, 116, 101, 109, 43, 10, 48, 32, 68, 101, 108, 101, 116, 101, 32, 67, 109, 100, 73, 68, 32, 77, 101, 116, 97, 63, 32, 73, 116, 101, 109, 43, 10, 48, 32, 73, 116, 101, 109, 32, 84, 97, 114, 103, 101, 116, 63, 32, 83, 111, 117, 114, 99, 101, 63, 32, 77, 101, 116, 97, 63, 32, 68, 97, 116, 97, 63, 32, 77, 111, 114, 101, 68, 97, 116, 97, 63, 10, 48, 32, 77, 97, 112, 32, 67, 109, 100, 73, 68, 32, 84, 97, 114, 103, 101, 116, 32, 83, 111, 117, 114, 99, 101, 32, 77, 101, 116, 97, 63, 32, 77, 97, 112, 73, 116, 101, 109, 43, 10, 48, 32, 77, 97, 112, 73, 116, 101, 109, 32, 84, 97, 114, 103, 101, 116, 32, 83, 111, 117, 114, 99, 101, 10, 48, 32, 83, 116, 97, 116, 117, 115, 32, 67, 109, 100, 73, 68, 32, 77, 115, 103, 82, 101, 102, 32, 67, 109, 100, 82, 101, 102, 32, 67, 109, 100, 32, 84, 97, 114, 103, 101, 116, 82, 101, 102, 42, 32, 83, 111, 117, 114, 99, 101, 82, 101, 102, 42, 32, 67, 104, 97, 108, 63, 32, 68, 97, 116, 97, 32, 73, 116, 101, 109, 42, 10, 48, 32, 67, 104, 97, 108, 32, 77, 101, 116, 97, 10, 48, 32, 67, 114, 101, 100, 32, 77, 101, 116, 97, 63, 32, 68, 97, 116, 97, 10, 48, 32, 80, 117, 116, 32, 67, 109, 100, 73, 68, 32, 77, 101, 116, 97, 63, 32, 73, 116, 101, 109, 43, 10, 48, 32, 71, 101, 116, 32, 67, 109, 100, 73, 68, 32, 77, 101, 116, 97, 63, 32, 73, 116, 101, 109, 43, 10, 48, 32, 82, 101, 115, 117, 108, 116, 115, 32, 67, 109, 100, 73, 68, 32, 77, 115, 103, 82, 101, 102, 63, 32, 67, 109, 100, 82, 101, 102, 32, 77, 101, 116, 97, 63, 32, 73, 116, 101, 109, 43, 10, 48, 32, 84, 97, 114, 103, 101, 116, 32, 76, 111, 99, 85, 82, 73, 32, 76, 111, 99, 78, 97, 109, 101, 63, 10, 48, 32, 83, 111, 117, 114, 99, 101, 32, 76, 111, 99, 85, 82, 73, 32, 76, 111, 99, 78, 97, 109, 101, 63, 10, 48, 32, 77, 101, 116, 97, 32, 49, 46, 70, 111, 114, 109, 97, 116, 63, 32, 49, 46, 84, 121, 112, 101, 63, 32, 49, 46, 83, 105, 122, 101, 63, 32, 49, 46, 65, 110, 99, 104, 111, 114, 63, 32, 49, 46, 86, 101, 114, 115, 105, 111, 110, 63, 32, 49, 46, 78, 101, 120, 116, 78, 111, 110, 99, 101, 63, 32, 49, 46, 77, 97, 120, 77, 115, 103, 83, 105, 122, 101, 63, 32, 49, 46, 77, 97, 120, 79, 98, 106, 83, 105, 122, 101, 63, 10, 48, 32, 68, 97, 116, 97, 32, 84, 69, 88, 84, 32, 50, 46, 68, 101, 118, 73, 110, 102, 63, 10, 49, 32, 65, 110, 99, 104, 111, 114, 32, 76, 97, 115, 116, 63, 32, 78, 101, 120, 116, 10, 50, 32, 68, 101, 118, 73, 110, 102, 32, 86, 101, 114, 68, 84, 68, 32, 77, 97, 110, 63, 32, 77, 111, 100, 63, 32, 83, 119, 86, 63, 32, 68, 101, 118, 73, 68, 32, 68, 101, 118, 84, 121, 112, 32, 83, 117, 112, 112, 111, 114, 116, 76, 97, 114, 103, 101, 79, 98, 106, 115, 63, 32, 68, 97, 116, 97, 83, 116, 111, 114, 101, 43, 10, 50, 32, 68, 97, 116, 97, 83, 116, 111, 114, 101, 32, 83, 111, 117, 114, 99, 101, 82, 101, 102, 32, 68, 105, 115, 112, 108, 97, 121, 78, 97, 109, 101, 63, 32, 77, 97, 120, 71, 85, 73, 68, 83, 105, 122, 101, 63, 32, 82, 120, 80, 114, 101, 102, 32, 82, 120, 42, 32, 84, 120, 80, 114, 101, 102, 32, 84, 120, 42, 32, 83, 121, 110, 99, 67, 97, 112, 10, 50, 32, 82, 120, 80, 114, 101, 102, 32, 67, 84, 84, 121, 112, 101, 32, 86, 101, 114, 67, 84, 10, 50, 32, 82, 120, 32, 67, 84, 84, 121, 112, 101, 32, 86, 101, 114, 67, 84, 10, 50, 32, 84, 120, 80, 114, 101, 102, 32, 67, 84, 84, 121, 112, 101, 32, 86, 101, 114, 67, 84, 10, 50, 32, 84, 120, 32, 67, 84, 84, 121, 112, 101, 32, 86, 101, 114, 67, 84, 10, 50, 32, 83, 121, 110, 99, 67, 97, 112, 32, 83, 121, 110, 99, 84, 121, 112, 101, 43, 10, 48, 32, 70, 105, 110, 97, 108, 10, 48, 32, 77, 111, 114, 101, 68, 97, 116, 97, 10, 50, 32, 83, 117, 112, 112, 111, 114, 116, 76, 97, 114, 103, 101, 79, 98, 106, 115, 10, 48, 32, 86, 101, 114, 68, 84, 68, 32, 84, 69, 88, 84, 10, 48, 32, 86, 101, 114, 80, 114, 111, 116, 111, 32, 84, 69, 88, 84, 10, 48, 32, 83, 101, 115, 115, 105, 111, 110, 73, 68, 32, 84, 69, 88, 84, 10, 48, 32, 77, 115, 103, 73, 68, 32, 84, 69, 88, 84, 10, 48, 32, 67, 109, 100, 73, 68, 32, 84, 69, 88, 84, 10, 48, 32, 78, 117, 109, 98, 101, 114, 79, 102, 67, 104, 97, 110, 103, 101, 115, 32, 84, 69, 88, 84, 10, 48, 32, 77, 115, 103, 82, 101, 102, 32, 84, 69, 88, 84, 10, 48, 32, 67, 109, 100, 82, 101, 102, 32, 84, 69, 88, 84, 10, 48, 32, 67, 109, 100, 32, 84, 69, 88, 84, 10, 48, 32, 84, 97, 114, 103, 101, 116, 82, 101, 102, 32, 84, 69, 88, 84, 10, 48, 32, 83, 111, 117, 114, 99, 101, 82, 101, 102, 32, 84, 69, 88, 84, 10, 48, 32, 76, 111, 99, 85, 82, 73, 32, 84, 69, 88, 84, 10, 48, 32, 76, 111, 99, 78, 97, 109, 101, 32, 84, 69, 88, 84, 10, 49, 32, 70, 111, 114, 109, 97, 116, 32, 84, 69, 88, 84, 10, 49, 32, 84, 121, 112, 101, 32, 84, 69, 88, 84, 10, 49, 32, 83, 105, 122, 101, 32, 84, 69, 88, 84, 10, 49, 32, 76, 97, 115, 116, 32, 84, 69, 88, 84, 10, 49, 32, 78, 101, 120, 116, 32, 84, 69, 88, 84, 10, 49, 32, 86, 101, 114, 115, 105, 111, 110, 32, 84, 69, 88, 84, 10, 49, 32, 78, 101, 120, 116, 78, 111, 110, 99, 101, 32, 84, 69, 88, 84, 10, 49, 32, 77, 97, 120, 77, 115, 103, 83, 105, 122, 101, 32, 84, 69, 88, 84, 10, 49, 32, 77, 97, 120, 79, 98, 106, 83, 105, 122, 101, 32, 84, 69, 88, 84, 10, 50, 32, 86, 101, 114, 68, 84, 68, 32, 84, 69, 88, 84, 10, 50, 32, 77, 97, 110, 32, 84, 69, 88, 84, 10, 50, 32, 77, 111, 100, 32, 84, 69, 88, 84, 10, 50, 32, 83, 119, 86, 32, 84, 69, 88, 84, 10, 50, 32, 68, 101, 118, 73, 68, 32, 84, 69, 88, 84, 10, 50, 32, 68, 101, 118, 84, 121, 112, 32, 84, 69, 88, 84, 10, 50, 32, 83, 111, 117, 114, 99, 101, 82, 101, 102, 32, 84, 69, 88, 84, 10, 50, 32, 68, 105, 115, 112, 108, 97, 121, 78, 97, 109, 101, 32, 84, 69, 88, 84, 10, 50, 32, 77, 97, 120, 71, 85, 73, 68, 83, 105, 122, 101, 32, 84, 69, 88, 84, 10, 50, 32, 67, 84, 84, 121, 112, 101, 32, 84, 69, 88, 84, 10, 50, 32, 86, 101, 114, 67, 84, 32, 84, 69, 88, 84, 10, 50, 32, 83, 121, 110, 99, 84, 121, 112, 101, 32, 84, 69, 88, 84]
def wTEXT : List UInt8 := [84, 69, 88, 84]
def pageD (p : Int) : List UInt8 := bif decide (p < 0) || decide (p > 2) then [63] else [UInt8.ofNat (48 + p.toNat)]
def ruleH (p : Int) (n : List UInt8) : List UInt8 := [10] ++ pageD p ++ [32] ++ n
def lineF (l : List UInt8) : List UInt8 := match cutO [10] l with
 | some (a, _) => a
 | none => l
def ruleGo (hd : List UInt8) : Nat → List UInt8 → Option (List UInt8)
 | 0, _ => none
 | f + 1, l => match cutO hd l with
   | none => none
   | some (_, r) => match r with
     | [] => some []
     | c :: t => bif c == 10 then some [] else bif c == 32 then some (lineF t) else ruleGo hd f (c :: t)
def ruleF (p : Int) (n : List UInt8) : Option (List UInt8) := bif n == [] then none else ruleGo (ruleH p n) (rulesB.length + 1) rulesB
def splitB (c : UInt8) : List UInt8 → List (List UInt8)
 | [] => [[]]
 | x :: l => bif x == c then [] :: splitB c l else match splitB c l with
   | [] => [[x]]
   | y :: r => (x :: y) :: r
def oneN (p : Int) (n : List UInt8) (e : El) : Bool := match n with
 | c :: d :: r => bif d == 46 then e.page == ((c - 48).toNat : Nat) && e.name == r else e.page == p && e.name == n
 | _ => e.page == p && e.name == n
def oneF (p : Int) (ns : List UInt8) (e : El) : Bool := (splitB 124 ns).any fun n => oneN p n e
def isSp (c : UInt8) : Bool := c == 32 || (9 ≤ c && c ≤ 13)
def wordsGo : List UInt8 → List UInt8 → List (List UInt8)
 | [], w => bif w == [] then [] else [w]
 | c :: l, w => bif isSp c then (bif w == [] then wordsGo l [] else w :: wordsGo l []) else wordsGo l (w ++ [c])
def wordsF (s : List UInt8) : List (List UInt8) := wordsGo s []
def lastB (w : List UInt8) : UInt8 := w.getLastD 0
def isMark (c : UInt8) : Bool := c == 63 || c == 42 || c == 43
def markF (w : List UInt8) : UInt8 := bif isMark (lastB w) then lastB w else 0
def namesF (w : List UInt8) : List UInt8 := bif isMark (lastB w) then w.dropLast else w
def takeW (p : Int) (w : List UInt8) (ks : List El) : Option (List El) :=
 bif w == wTEXT then some ks else
 bif markF w == 42 || markF w == 43 then
  (match ks.dropWhile (oneF p (namesF w)) with
   | r => bif !(decide (r.length < ks.length)) && !(markF w == 42) then none else some r)
 else match ks with
  | k :: r => bif oneF p (namesF w) k then some r else bif markF w == 63 then some ks else none
  | [] => bif markF w == 63 then some [] else none
def fitsW (p : Int) : List (List UInt8) → List El → Bool
 | [], ks => ks.isEmpty
 | w :: ws, ks => match takeW p w ks with
   | none => false
   | some r => fitsW p ws r
def fitsF (p : Int) (rule : List UInt8) (ks : List El) : Bool := fitsW p (wordsF rule) ks
def gram1 (e : El) : Int := match ruleF e.page e.name with
 | none => 14
 | some r => bif !(e.text == []) && !(wTEXT.isPrefixOf r) then 3 else bif !(fitsF e.page r e.kids) then 15 else 0
def gramGo : Nat → List (Nat × El) → Nat × Int
 | _, [] => (0, 0)
 | n, p :: l => bif gram1 p.2 == 0 then gramGo (n + 1) l else (n + 1, gram1 p.2)
def gramF (e : El) : Nat × Int := bif checkF e == 0 then gramGo 0 (pre 20 e 1) else (0, checkF e)
theorem rule_DevInf : ruleF 2 nDev = some [86, 101, 114, 68, 84, 68, 32, 77, 97, 110, 63, 32, 77, 111, 100, 63, 32, 83, 119, 86, 63, 32, 68, 101, 118, 73, 68, 32, 68, 101, 118, 84, 121, 112, 32, 83, 117, 112, 112, 111, 114, 116, 76, 97, 114, 103, 101, 79, 98, 106, 115, 63, 32, 68, 97, 116, 97, 83, 116, 111, 114, 101, 43] := by kernel_rfl
theorem rule_Store : ruleF 2 nStore = some [83, 111, 117, 114, 99, 101, 82, 101, 102, 32, 68, 105, 115, 112, 108, 97, 121, 78, 97, 109, 101, 63, 32, 77, 97, 120, 71, 85, 73, 68, 83, 105, 122, 101, 63, 32, 82, 120, 80, 114, 101, 102, 32, 82, 120, 42, 32, 84, 120, 80, 114, 101, 102, 32, 84, 120, 42, 32, 83, 121, 110, 99, 67, 97, 112] := by kernel_rfl
theorem rule_RxPref : ruleF 2 (nRx ++ nPref) = some [67, 84, 84, 121, 112, 101, 32, 86, 101, 114, 67, 84] := by kernel_rfl
theorem rule_Rx : ruleF 2 nRx = some [67, 84, 84, 121, 112, 101, 32, 86, 101, 114, 67, 84] := by kernel_rfl
theorem rule_TxPref : ruleF 2 (nTx ++ nPref) = some [67, 84, 84, 121, 112, 101, 32, 86, 101, 114, 67, 84] := by kernel_rfl
theorem rule_Tx : ruleF 2 nTx = some [67, 84, 84, 121, 112, 101, 32, 86, 101, 114, 67, 84] := by kernel_rfl
theorem rule_Cap : ruleF 2 nCap = some [83, 121, 110, 99, 84, 121, 112, 101, 43] := by kernel_rfl
theorem rule_Large : ruleF 2 nLarge = some [] := by kernel_rfl
theorem rule_DTD : ruleF 2 nDTD = some wTEXT := by kernel_rfl
theorem rule_Man : ruleF 2 nMan = some wTEXT := by kernel_rfl
theorem rule_Mod : ruleF 2 nMod = some wTEXT := by kernel_rfl
theorem rule_SwV : ruleF 2 nSwV = some wTEXT := by kernel_rfl
theorem rule_DevID : ruleF 2 nDevID = some wTEXT := by kernel_rfl
theorem rule_DevTyp : ruleF 2 nDevTyp = some wTEXT := by kernel_rfl
theorem rule_Ref : ruleF 2 nRef = some wTEXT := by kernel_rfl
theorem rule_Disp : ruleF 2 nDisp = some wTEXT := by kernel_rfl
theorem rule_Max : ruleF 2 nMax = some wTEXT := by kernel_rfl
theorem rule_CT : ruleF 2 nCT = some wTEXT := by kernel_rfl
theorem rule_Ver : ruleF 2 nVer = some wTEXT := by kernel_rfl
theorem rule_Sync : ruleF 2 nSync = some wTEXT := by kernel_rfl
mutual
def allE (q : El → Prop) : El → Prop
 | .mk p n t o ks => q (.mk p n t o ks) ∧ allEs q ks
def allEs (q : El → Prop) : List El → Prop
 | [] => True
 | k :: ks => allE q k ∧ allEs q ks
end
theorem allEs_of (q : El → Prop) : ∀ (ks : List El), (∀ k ∈ ks, allE q k) → allEs q ks
 | [], _ => trivial
 | k :: ks, h => ⟨h k (by simp), allEs_of q ks fun x hx => h x (by simp [hx])⟩
mutual
theorem pre_all (q : El → Prop) (m : Nat) : ∀ (e : El) (d : Nat), allE q e → ∀ x ∈ pre m e d, q x.2
 | .mk p n t o ks, d, h, x, hx => by
   rw [pre] at hx
   cases e : Nat.blt m d
   · rw [e, cond_false] at hx
     rcases List.mem_cons.1 hx with rfl | hx
     · exact h.1
     · exact pres_all q m ks (d + 1) h.2 x hx
   · rw [e, cond_true] at hx; simp at hx
theorem pres_all (q : El → Prop) (m : Nat) : ∀ (ks : List El) (d : Nat), allEs q ks → ∀ x ∈ pres m ks d, q x.2
 | [], d, h, x, hx => by simp [pres] at hx
 | k :: ks, d, h, x, hx => by
   rw [pres] at hx
   rcases List.mem_append.1 hx with hx | hx
   · exact pre_all q m k d h.1 x hx
   · exact pres_all q m ks d h.2 x hx
end
mutual
theorem pre_dep (m : Nat) : ∀ (e : El) (d : Nat), ∀ x ∈ pre m e d, x.1 + 1 ≤ d + dp e
 | .mk p n t o ks, d, x, hx => by
   rw [pre] at hx
   rw [dp]
   cases e : Nat.blt m d
   · rw [e, cond_false] at hx
     rcases List.mem_cons.1 hx with rfl | hx
     · show d + 1 ≤ _; omega
     · have := pres_dep m ks (d + 1) x hx; omega
   · rw [e, cond_true] at hx; simp at hx
theorem pres_dep (m : Nat) : ∀ (ks : List El) (d : Nat), ∀ x ∈ pres m ks d, x.1 + 1 ≤ d + dps ks
 | [], d, x, hx => by simp [pres] at hx
 | k :: ks, d, x, hx => by
   rw [pres] at hx
   rw [dps]
   rcases List.mem_append.1 hx with hx | hx
   · have := pre_dep m k d x hx; omega
   · have := pres_dep m ks d x hx; omega
end
mutual
theorem pre_size (m : Nat) : ∀ (e : El) (d : Nat), (pre m e d).length ≤ nodes e
 | .mk p n t o ks, d => by
   rw [pre, nodes]
   have := pres_size m ks (d + 1)
   cases Nat.blt m d
   · simp only [cond_false, List.length_cons]; omega
   · simp only [cond_true, List.length_nil]; omega
theorem pres_size (m : Nat) : ∀ (ks : List El) (d : Nat), (pres m ks d).length ≤ nodess ks
 | [], d => by simp [pres, nodess]
 | k :: ks, d => by
   rw [pres, nodess, List.length_append]
   have h1 := pre_size m k d
   have h2 := pres_size m ks d
   omega
end
theorem firstErr_none : ∀ (l : List (Nat × El)), (∀ p ∈ l, check1 p.2 = 0) → firstErr l = 0
 | [], _ => rfl
 | p :: l, h => by
   rw [firstErr, h p (by simp)]
   exact firstErr_none l fun q hq => h q (by simp [hq])
theorem check_of {e : El} (h1 : allE (fun x => check1 x = 0) e) (h2 : dp e ≤ 12) (h3 : nodes e ≤ 2000) : checkF e = 0 := by
 have a1 : (looked e).any (fun p => decide (12 < p.1)) = false := by
  rw [List.any_eq_false]
  intro x hx
  have := pre_dep 13 e 1 x (List.mem_of_mem_take hx)
  simp; omega
 have a2 : decide (2000 < weightF e) = false := by
  rw [decide_eq_false_iff_not, weightF, List.length_take]
  have := pre_size 5000 e 1
  omega
 rw [checkF, a1, a2, cond_false, cond_false]
 exact firstErr_none _ fun p hp => pre_all _ 13 e 1 h1 p (List.mem_of_mem_take hp)
theorem gramGo_ok : ∀ (l : List (Nat × El)) (n : Nat), (∀ p ∈ l, gram1 p.2 = 0) → gramGo n l = (0, 0)
 | [], _, _ => rfl
 | p :: l, n, h => by
   rw [gramGo, h p (by simp)]
   exact gramGo_ok l (n + 1) fun q hq => h q (by simp [hq])
theorem nodess_append : ∀ (a b : List El), nodess (a ++ b) = nodess a + nodess b
 | [], b => by simp [nodess]
 | k :: a, b => by rw [List.cons_append, nodess, nodess, nodess_append a b]; omega
theorem dps_append : ∀ (a b : List El), dps (a ++ b) = max (dps a) (dps b)
 | [], b => by simp [dps]
 | k :: a, b => by rw [List.cons_append, dps, dps, dps_append a b]; omega
theorem nodess_map {α : Type} (f : α → El) (c : Nat) : ∀ (l : List α), (∀ x ∈ l, nodes (f x) ≤ c) → nodess (l.map f) ≤ l.length * c
 | [], _ => by simp [nodess]
 | x :: l, h => by
   rw [List.map_cons, nodess, List.length_cons, Nat.succ_mul]
   have h1 := h x (by simp)
   have h2 := nodess_map f c l fun y hy => h y (by simp [hy])
   omega
theorem dps_map {α : Type} (f : α → El) (c : Nat) : ∀ (l : List α), (∀ x ∈ l, dp (f x) ≤ c) → dps (l.map f) ≤ c
 | [], _ => by simp [dps]
 | x :: l, h => by
   rw [List.map_cons, dps]
   have h1 := h x (by simp)
   have h2 := dps_map f c l fun y hy => h y (by simp [hy])
   omega
theorem kids_app (a b : List El) (n : List UInt8) : kidsF (a ++ b) n = kidsF a n ++ kidsF b n := List.filter_append _ _
theorem kids_say (m n t : List UInt8) : kidsF (sayD m t) n = bif m == n then sayD m t else [] := by
 unfold sayD kidsF
 cases t == [] <;> cases e : m == n <;> simp [leafD, El.name, e]
theorem kids_map {α : Type} (f : α → El) (m n : List UInt8) (hf : ∀ x, (f x).name = m) (l : List α) : kidsF (l.map f) n = bif m == n then l.map f else [] := by
 unfold kidsF
 cases e : m == n
 · rw [cond_false, List.filter_eq_nil_iff]
   intro x hx
   obtain ⟨y, _, rfl⟩ := List.mem_map.1 hx
   rw [hf, e]; simp
 · rw [cond_true, List.filter_eq_self]
   intro x hx
   obtain ⟨y, _, rfl⟩ := List.mem_map.1 hx
   rw [hf, e]
theorem kids_one (n m : List UInt8) (ks : List El) : kidsF [nodeD m ks] n = bif m == n then [nodeD m ks] else [] := by
 unfold kidsF nodeD
 cases e : m == n <;> simp [El.name, e]
theorem kids_told (m n : List UInt8) (h1 : (m ++ nPref == n) = false) (h2 : (m == n) = false) (l : List Frm) : kidsF (toldD m l) n = [] := by
 cases l with
 | nil => rfl
 | cons f l =>
   have e := kids_map (formD m) m n (fun _ => rfl) l
   rw [h2, cond_false] at e
   show kidsF ([formD (m ++ nPref) f] ++ l.map (formD m)) n = []
   rw [kids_app, e]
   show kidsF [nodeD (m ++ nPref) _] n ++ [] = []
   rw [kids_one, h1]; rfl
theorem kids_max (k : Int) (n : List UInt8) : kidsF (maxD k) n = bif nMax == n then maxD k else [] := by
 unfold maxD
 cases k == 0
 · rw [cond_false]; exact kids_say _ _ _
 · rw [cond_true]; cases nMax == n <;> rfl
theorem text_say (l : List El) (n t : List UInt8) (h : kidsF l n = sayD n t) : textF l n = t := by
 unfold textF
 rw [h, sayD]
 cases e : t == []
 · rfl
 · have : t = [] := by simpa using e
   subst this; rfl
def hit (n : List UInt8) (k : El) : Bool := k.name == n || k.name == n ++ nPref
theorem hit_told (m n : List UInt8) (l : List Frm) : (toldD m l).filter (hit n) = bif m == n then toldD m l else (toldD m l).filter (hit n) := by
 cases e : m == n
 · rfl
 · have : m = n := by simpa using e
   subst this
   rw [cond_true, List.filter_eq_self]
   intro x hx
   cases l with
   | nil => simp [toldD] at hx
   | cons f l =>
     rw [toldD, List.mem_cons] at hx
     rcases hx with rfl | hx
     · simp [hit, formD, nodeD, El.name]
     · obtain ⟨y, _, rfl⟩ := List.mem_map.1 hx
       simp [hit, formD, nodeD, El.name]
theorem miss_told (m n : List UInt8) (h1 : (m == n) = false) (h2 : (m == n ++ nPref) = false) (h3 : (m ++ nPref == n) = false) (h4 : (m ++ nPref == n ++ nPref) = false) (l : List Frm) : (toldD m l).filter (hit n) = [] := by
 rw [List.filter_eq_nil_iff]
 intro x hx
 cases l with
 | nil => simp [toldD] at hx
 | cons f l =>
   rw [toldD, List.mem_cons] at hx
   rcases hx with rfl | hx
   · simp only [hit, formD, nodeD, El.name, h3, h4]; simp
   · obtain ⟨y, _, rfl⟩ := List.mem_map.1 hx
     simp only [hit, formD, nodeD, El.name, h1, h2]; simp
theorem miss_say (m n t : List UInt8) (h1 : (m == n) = false) (h2 : (m == n ++ nPref) = false) : (sayD m t).filter (hit n) = [] := by
 unfold sayD
 cases t == []
 · simp only [cond_false, List.filter_cons, leafD, hit, El.name, h1, h2]; simp
 · rfl
theorem miss_max (k : Int) (n : List UInt8) (h1 : (nMax == n) = false) (h2 : (nMax == n ++ nPref) = false) : (maxD k).filter (hit n) = [] := by
 unfold maxD
 cases k == 0
 · exact miss_say _ _ _ h1 h2
 · rfl
theorem miss_one (m n : List UInt8) (ks : List El) (h1 : (m == n) = false) (h2 : (m == n ++ nPref) = false) : [nodeD m ks].filter (hit n) = [] := by
 simp only [List.filter_cons, nodeD, hit, El.name, h1, h2]; simp
theorem told_says (m : List UInt8) (l : List Frm) : (toldD m l).map (fun k => (textF k.kids nCT, textF k.kids nVer)) = l := by
 have h : ∀ (q : List UInt8) (f : Frm), (textF (formD q f).kids nCT, textF (formD q f).kids nVer) = f := fun q f => rfl
 cases l with
 | nil => rfl
 | cons f l =>
   rw [toldD, List.map_cons, h, List.map_map]
   congr 1
   have : (fun k => (textF k.kids nCT, textF k.kids nVer)) ∘ formD m = id := by funext f; exact h m f
   rw [this, List.map_id]
theorem heard_eq (ks : List El) (n : List UInt8) : heardD ks n = (ks.filter (hit n)).map fun k => (textF k.kids nCT, textF k.kids nVer) := rfl
theorem kinds_back (l : List Int) (h : ∀ k ∈ l, 1 ≤ k ∧ k ≤ 99) : (l.map kindD).map (fun s => (figF s.text).1) = l := by
 rw [List.map_map]
 have : ∀ k ∈ l, ((fun s => (figF s.text).1) ∘ kindD) k = id k := fun k hk => by
  have := h k hk
  show (figF (digF k)).1 = k
  rw [num_dig k (by omega) (by omega)]
 rw [List.map_congr_left this, List.map_id]
theorem store_back (p : Plc) (h : placeF p = true) : plcD (storeD p) = p := by
 simp only [placeF, Bool.and_eq_true, decide_eq_true_eq, List.all_eq_true] at h
 obtain ⟨⟨⟨⟨⟨⟨⟨⟨_, _⟩, h3⟩, h4⟩, _⟩, _⟩, _⟩, _⟩, h9⟩ := h
 have hk : ∀ k ∈ p.kinds, 1 ≤ k ∧ k ≤ 99 := fun k hk => by
  have := h9 k hk
  simpa [kindOk] using this
 generalize hks : (storeD p).kids = ks
 have hks' : ks = sayD nRef p.ref ++ sayD nDisp p.name ++ maxD p.maxId ++ toldD nRx p.takes ++ toldD nTx p.gives ++ [nodeD nCap (p.kinds.map kindD)] := by rw [← hks]; rfl
 have kF : ∀ n, (nRx ++ nPref == n) = false → (nRx == n) = false → (nTx ++ nPref == n) = false → (nTx == n) = false → kidsF ks n = (bif nRef == n then sayD nRef p.ref else []) ++ (bif nDisp == n then sayD nDisp p.name else []) ++ (bif nMax == n then maxD p.maxId else []) ++ [] ++ [] ++ (bif nCap == n then [nodeD nCap (p.kinds.map kindD)] else []) := by
  intro n a1 a2 a3 a4
  rw [hks']
  simp only [kids_app, kids_say, kids_max, kids_told nRx n a1 a2, kids_told nTx n a3 a4, kids_one]
 have t1 : textF ks nRef = p.ref := text_say _ _ _ (by rw [kF nRef rfl rfl rfl rfl]; simp [show (nRef == nRef) = true from rfl, show (nDisp == nRef) = false from rfl, show (nMax == nRef) = false from rfl, show (nCap == nRef) = false from rfl])
 have t2 : textF ks nDisp = p.name := text_say _ _ _ (by rw [kF nDisp rfl rfl rfl rfl]; simp [show (nRef == nDisp) = false from rfl, show (nDisp == nDisp) = true from rfl, show (nMax == nDisp) = false from rfl, show (nCap == nDisp) = false from rfl])
 have k3 : kidsF ks nMax = maxD p.maxId := by rw [kF nMax rfl rfl rfl rfl]; simp [show (nRef == nMax) = false from rfl, show (nDisp == nMax) = false from rfl, show (nMax == nMax) = true from rfl, show (nCap == nMax) = false from rfl]
 have t3 : (figF (textF ks nMax)).1 = p.maxId := by
  unfold maxD at k3
  cases e : p.maxId == 0
  · rw [e, cond_false] at k3
    rw [text_say _ _ _ k3, num_dig _ h3 h4]
  · rw [e, cond_true] at k3
    rw [textF, k3]
    have : p.maxId = 0 := by simpa using e
    rw [this]; rfl
 have k4 : kindsD ks = p.kinds := by
  rw [kindsD, kF nCap rfl rfl rfl rfl]
  have e1 : (nRef == nCap) = false := rfl
  have e2 : (nDisp == nCap) = false := rfl
  have e3 : (nMax == nCap) = false := rfl
  have e4 : (nCap == nCap) = true := rfl
  simp only [e1, e2, e3, e4, cond_false, cond_true, List.append_nil, List.nil_append, List.flatMap_cons, List.flatMap_nil]
  show (kidsF (p.kinds.map kindD) nSync).map _ = _
  rw [kids_map kindD nSync nSync (fun _ => rfl)]
  exact kinds_back _ hk
 have t5 : heardD ks nRx = p.takes := by
  rw [heard_eq, hks']
  simp only [List.filter_append, miss_say nRef nRx _ rfl rfl, miss_say nDisp nRx _ rfl rfl, miss_max _ nRx rfl rfl, miss_told nTx nRx rfl rfl rfl rfl, miss_one nCap nRx _ rfl rfl, List.nil_append, List.append_nil]
  rw [hit_told, show (nRx == nRx) = true from rfl, cond_true, told_says]
 have t6 : heardD ks nTx = p.gives := by
  rw [heard_eq, hks']
  simp only [List.filter_append, miss_say nRef nTx _ rfl rfl, miss_say nDisp nTx _ rfl rfl, miss_max _ nTx rfl rfl, miss_told nRx nTx rfl rfl rfl rfl, miss_one nCap nTx _ rfl rfl, List.nil_append, List.append_nil]
  rw [hit_told, show (nTx == nTx) = true from rfl, cond_true, told_says]
 rw [plcD, hks, t1, t2, t3, t5, t6, k4]
theorem checkD_ok {d : Dvc} (h : checkD d = 0) : (1 ≤ d.places.length ∧ d.places.length ≤ 6) ∧ (∀ p ∈ d.places, placeF p = true) ∧ wordsD d = true := by
 unfold checkD at h
 obtain ⟨h1, h⟩ := bif_zero (by omega) h
 obtain ⟨h2, h⟩ := bif_zero (by omega) h
 obtain ⟨h3, _⟩ := bif_zero (by omega) h
 simp only [Bool.or_eq_false_iff, decide_eq_false_iff_not, Bool.not_eq_false', List.all_eq_true] at h1 h2 h3
 exact ⟨by omega, h2, h3⟩
theorem dev_back (d : Dvc) (h : checkD d = 0) : dvcD (elemD d) = d := by
 obtain ⟨_, hp, _⟩ := checkD_ok h
 generalize hks : (elemD d).kids = ks
 have hks' : ks = sayD nDTD dtdF ++ sayD nMan d.man ++ sayD nMod d.mod_ ++ sayD nSwV d.soft ++ sayD nDevID d.id ++ sayD nDevTyp d.type ++ (bif d.large then [nodeD nLarge []] else []) ++ d.places.map storeD := by rw [← hks]; rfl
 have kL : ∀ n, kidsF (bif d.large then [nodeD nLarge []] else []) n = bif nLarge == n then (bif d.large then [nodeD nLarge []] else []) else [] := fun n => by
  cases d.large
  · cases nLarge == n <;> rfl
  · exact kids_one _ _ _
 have kF : ∀ n, kidsF ks n = (bif nDTD == n then sayD nDTD dtdF else []) ++ (bif nMan == n then sayD nMan d.man else []) ++ (bif nMod == n then sayD nMod d.mod_ else []) ++ (bif nSwV == n then sayD nSwV d.soft else []) ++ (bif nDevID == n then sayD nDevID d.id else []) ++ (bif nDevTyp == n then sayD nDevTyp d.type else []) ++ (bif nLarge == n then (bif d.large then [nodeD nLarge []] else []) else []) ++ (bif nStore == n then d.places.map storeD else []) := by
  intro n
  rw [hks']
  simp only [kids_app, kids_say, kL, kids_map storeD nStore n (fun _ => rfl)]
 have t1 : textF ks nMan = d.man := text_say _ _ _ ((kF nMan).trans (by
  show [] ++ sayD nMan d.man ++ [] ++ [] ++ [] ++ [] ++ [] ++ [] = _
  simp))
 have t2 : textF ks nMod = d.mod_ := text_say _ _ _ ((kF nMod).trans (by
  show [] ++ [] ++ sayD nMod d.mod_ ++ [] ++ [] ++ [] ++ [] ++ [] = _
  simp))
 have t3 : textF ks nSwV = d.soft := text_say _ _ _ ((kF nSwV).trans (by
  show [] ++ [] ++ [] ++ sayD nSwV d.soft ++ [] ++ [] ++ [] ++ [] = _
  simp))
 have t4 : textF ks nDevID = d.id := text_say _ _ _ ((kF nDevID).trans (by
  show [] ++ [] ++ [] ++ [] ++ sayD nDevID d.id ++ [] ++ [] ++ [] = _
  simp))
 have t5 : textF ks nDevTyp = d.type := text_say _ _ _ ((kF nDevTyp).trans (by
  show [] ++ [] ++ [] ++ [] ++ [] ++ sayD nDevTyp d.type ++ [] ++ [] = _
  simp))
 have k6 : kidsF ks nLarge = bif d.large then [nodeD nLarge []] else [] := (kF nLarge).trans (by
  show [] ++ [] ++ [] ++ [] ++ [] ++ [] ++ (bif d.large then [nodeD nLarge []] else []) ++ [] = _
  simp)
 have t6 : decide (0 < (kidsF ks nLarge).length) = d.large := by rw [k6]; cases d.large <;> rfl
 have k7 : kidsF ks nStore = d.places.map storeD := (kF nStore).trans (by
  show [] ++ [] ++ [] ++ [] ++ [] ++ [] ++ [] ++ d.places.map storeD = _
  simp)
 have t7 : (kidsF ks nStore).map plcD = d.places := by
  rw [k7, List.map_map]
  have : ∀ p ∈ d.places, (plcD ∘ storeD) p = id p := fun p hpp => store_back p (hp p hpp)
  rw [List.map_congr_left this, List.map_id]
 rw [dvcD, hks, t1, t2, t3, t4, t5, t6, t7]
end Go.Run.Tryz
