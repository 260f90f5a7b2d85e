/- Part 8 of a proof: texts N22 N23 N24 D1 G1 D2 D3 E1 E2 E3 E4 E5 N25. -/
import Derived.Test.YthmjdmianbobbaaGreatDoorVG
import Derived.Lib.ValidLaws
namespace Go.Run.Tryz
open Go Go.Run Go.RowKit
open Go.Proofs.Tryz (prog)
variable {G : Gl}
def wLoop (c : CC) : CC := ccIn (ccIn (ccFst (ccSnd (ccSnd c))))
def wSw (c : CC) : CC := ccIn (ccSnd (ccSnd (ccIn (ccSnd (wLoop c)))))
def wElse (c : CC) : CC := ccElse (ccSnd (ccElse (ccSnd (ccElse (ccSnd (ccElse (ccSnd (wSw c))))))))
def wDraw (c : CC) : CC := ccSnd (ccSnd (ccSnd (wElse c)))
def Z5 : List DV := [.int .i64 0, .str [], .str [], .bool false, .nils]
theorem splice_kid {ks : List El} {x : El} {rest : List DV} : spliceL (0 + ((ks.length : Nat) : Int).toNat * 5) (elC x) (elsC ks ++ Z5 ++ rest) = elsC (ks ++ [x]) ++ rest := by
 have h1 : 0 + ((ks.length : Nat) : Int).toNat * 5 = (elsC ks).length := by rw [elsC_length]; simp
 have h2 : (elC x).length = Z5.length := by rw [elC_length]; rfl
 have h3 : elsC ks ++ Z5 ++ rest = elsC ks ++ (Z5 ++ rest) := List.append_assoc _ _ _
 rw [h1, h3, spliceL, List.take_left, ← List.drop_drop, List.drop_left, h2, List.drop_left, elsC_append]
 simp [elsC]
theorem WS.kid {H0 B Hf : Hp} {s : List UInt8} {ty : TypeId} {b be bb j g cap : Nat} {p4 : List DV} {K : DV} {ks : List El} {x : El} {txt : List UInt8} {u : Bool} {rest : List DV} (hb : b ≠ be) (hbe : H0 be = none)
  (hB : BLD ((H0.upd b (Go.Run.Tryz.rd s j ty)).upd be (some (.cells (p4 ++ [K]) elT))) bb u txt B) (hg : B g = none) (hcap : ks.length + 1 ≤ cap) (hlen : (elsC ks ++ Z5 ++ rest).length = cap * 5)
  (hf : Hf = ((B.upd g (some (.cells (elsC ks ++ Z5 ++ rest) elT))).upd g (some (.cells (elsC (ks ++ [x]) ++ rest) elT))).upd be (some (.cells (p4 ++ [.win g 0 (ks.length + 1) cap]) elT))) :
  WS H0 s ty b be bb p4 j (ks ++ [x]) txt Hf := by
 have hg1 := hB.base hg
 have hgb : g ≠ be := fun e => by rw [e, Hp.upd_same] at hg1; cases hg1
 rw [Hp.upd_ne hgb] at hg1
 have h1 := hB.put (o := some (.cells (elsC ks ++ Z5 ++ rest) elT)) hg
 have h2 := h1.upd (k := g) (o' := .cells (elsC (ks ++ [x]) ++ rest) elT) Hp.upd_same
 have h3 := h2.upd (k := be) (o := .cells (p4 ++ [K]) elT) (o' := .cells (p4 ++ [.win g 0 (ks.length + 1) cap]) elT) (by rw [Hp.upd_ne (Ne.symm hgb), Hp.upd_ne (Ne.symm hgb)]; exact Hp.upd_same)
 rw [← hf, Hp.upd_upd, Hp.upd_comm hgb, Hp.upd_upd] at h3
 refine ⟨hb, hbe, .win g 0 (ks.length + 1) cap, _, u, ?_, h3⟩
 have hn : (ks ++ [x]).length = ks.length + 1 := by simp
 have h4 := WST.on (H0 := H0.upd b (Go.Run.Tryz.rd s j ty)) (be := be) (p4 := p4) g cap rest (ks ++ [x]) hg1 hgb (by
  rw [← hlen, List.length_append, List.length_append, List.length_append, elsC_length, elsC_length, hn]
  show _ = ks.length * 5 + 5 + rest.length
  omega) (by rw [hn]; exact hcap)
 rw [hn] at h4
 exact h4
theorem kid_reg {H0 H' : Hp} {s : List UInt8} {ty : TypeId} {b be bb i deep : Nat} {pg : Int} {n t0 : List UInt8} {o0 : Bool} {ks : List El} {txt : List UInt8} {kid : Nat → RES (El × Nat)} {Q : EX → Fr → Hp → Prop}
  (hS : WS H0 s ty b be bb [.int .i64 pg, .str n, .str t0, .bool o0] i ks txt H') (hd : deep ≤ 12) (hl : ks.length ≤ 200)
  (hkid : CALL prog G 53 [.ptr b 0, .int .i64 pg, .int .i64 ((deep + 1 : Nat) : Int)] H' (Kr1 (kid i) (fun v => .agg (elC v.1)) (·.2) s b ty H') (Kp1 (kid i) s b ty H'))
  (hp : ∀ e j fr', kid i = .error e → j ≤ s.length → Q (.panic (fault e.1 e.2)) fr' (H'.upd b (rd s j ty)))
  (hk : ∀ x j H2, kid i = .ok (x, j) → WS H0 s ty b be bb [.int .i64 pg, .str n, .str t0, .bool o0] j (ks ++ [x]) txt H2 → ∀ fr', Agrees fr' [(0, .ptr b 0), (1, .ptr be 0), (2, .int .i64 deep), (7, .ptr bb 0)] → Q .normal fr' H2) :
  AC prog G none F115.N (wDraw F115.c) Q (frOf [(0, .ptr b 0), (1, .ptr be 0), (2, .int .i64 deep), (7, .ptr bb 0)]) H' := by
 obtain ⟨K, A, u, hA, hB⟩ := hS.st
 have hne := hS.hb
 have hvar := hA.var
 have hbev : H' be = some (.cells [.int .i64 pg, .str n, .str t0, .bool o0, K] elT) := hB.look hvar
 refine AC.drawV [11, 13, 14, 16, 19] (by kernel_rfl) ?_
 first|refine VD.z0 0 ?_|refine VD.z1 0 ?_|refine VD.z2 0 ?_|refine VD.z3 0 ?_|refine VD.z4 0 ?_|refine VD.z5 0 ?_
 first|refine VD.z0 1 ?_|refine VD.z1 1 ?_|refine VD.z2 1 ?_|refine VD.z3 1 ?_|refine VD.z4 1 ?_|refine VD.z5 1 ?_
 first|refine VD.z0 2 ?_|refine VD.z1 2 ?_|refine VD.z2 2 ?_|refine VD.z3 2 ?_|refine VD.z4 2 ?_|refine VD.z5 2 ?_
 refine VD.pv 3 rfl rfl (evP_ld (d := K) wh hbev rfl) ?_
 first|refine VD.z0 4 ?_|refine VD.z1 4 ?_|refine VD.z2 4 ?_|refine VD.z3 4 ?_|refine VD.z4 4 ?_|refine VD.z5 4 ?_
 first|refine VD.z0 5 ?_|refine VD.z1 5 ?_|refine VD.z2 5 ?_|refine VD.z3 5 ?_|refine VD.z4 5 ?_|refine VD.z5 5 ?_
 first|refine VD.z0 6 ?_|refine VD.z1 6 ?_|refine VD.z2 6 ?_|refine VD.z3 6 ?_|refine VD.z4 6 ?_|refine VD.z5 6 ?_
 first|refine VD.z0 7 ?_|refine VD.z1 7 ?_|refine VD.z2 7 ?_|refine VD.z3 7 ?_|refine VD.z4 7 ?_|refine VD.z5 7 ?_
 refine VD.pv 8 rfl rfl (evP_ld (d := .int .i64 pg) wh hbev rfl) ?_
 first|refine VD.z0 9 ?_|refine VD.z1 9 ?_|refine VD.z2 9 ?_|refine VD.z3 9 ?_|refine VD.z4 9 ?_|refine VD.z5 9 ?_
 refine VD.pv 10 rfl rfl (evP_addI (a := deep) (b := 1) wh wh (by omega)) ?_
 refine VD.pv 12 rfl rfl (d := .int .i64 ks.length) (show lenD false K = _ from hA.len) ?_
 have bslE : ∀ (fr : Fr) (HH : Hp), EF prog G none F115.N ⟨some 58, none, .bsl 24 1 5 Z5 [(0, 5, (.c (.agg Z5)))]⟩ (fun d H2 => (∃ g, d = .lst Z5 1 5 (some (g, 0))) ∧ H2 = HH) (fun _ _ => False) fr HH :=
  fun fr HH fr1 l Q hs k _ => RG.st (ST.bsl (cs := Z5) rfl fun g hg => RG.drop (SubH.fresh hg) (k _ _ ⟨⟨g, rfl⟩, rfl⟩))
 have hE : ∀ j, ∃ B, BLD ((H0.upd b (rd s j ty)).upd be (some (.cells ([.int .i64 pg, .str n, .str t0, .bool o0] ++ [K]) elT))) bb u txt B ∧ ∀ (fr : Fr) (g0 : Nat), fr 48 = K → fr 58 = .lst Z5 1 5 (some (g0, 0)) →
   EF prog G none F115.N ⟨some 59, none, .app 24 5 72 (.t 48) (.t 58)⟩ (fun d H3 => ∃ g cap rest, d = .win g 0 (ks.length + 1) cap ∧ ks.length + 1 ≤ cap ∧ (elsC ks ++ Z5 ++ rest).length = cap * 5 ∧ B g = none ∧ H3 = B.upd g (some (.cells (elsC ks ++ Z5 ++ rest) elT))) (fun _ _ => False) fr (H'.upd b (rd s j ty)) := by
  intro j
  have hb0 : (H0.upd b (rd s i ty)) b = some (.cells [.str s, .int .i64 i] ty) := Hp.upd_same
  have hA2 := hA.upd (o' := .cells [.str s, .int .i64 j] ty) hS.be0 hb0
  rw [Hp.upd_upd] at hA2
  have hB2 := hB.upd (k := b) (o' := .cells [.str s, .int .i64 j] ty) (hA.sub hS.be0 b _ hb0)
  have hrd : rd s j ty = some (.cells [.str s, .int .i64 j] ty) := rfl
  rw [← hrd] at hA2 hB2
  generalize A.upd b (rd s j ty) = A2 at hA2 hB2
  generalize H'.upd b (rd s j ty) = HH at hB2 ⊢
  clear hbev hvar hB hA
  cases hA2 with
  | nil =>
    refine ⟨HH, hB2, fun fr g0 h48 h58 fr1 l Q hs k _ => RG.st (ST.app_w0 ((hs 48 (by decide)).trans h48) (ys := Z5) (m := 1) (by show srcD _ 5 (fr1 58) = _; rw [hs 58 (by decide), h58]; rfl) (by omega) (by decide) (fun g cap rest h1 h2 h3 => k _ _ ⟨g, cap, rest, rfl, h2, h3, h1, rfl⟩))⟩
  | on g1 cap1 rest1 _ a1 a2 a3 a4 =>
    have hg1 : HH g1 = some (.cells (elsC ks ++ rest1) elT) := hB2.look Hp.upd_same
    have hB3 := hB2.rem (k := g1) Hp.upd_same
    have hXX : (((H0.upd b (rd s j ty)).upd be (some (.cells ([.int .i64 pg, .str n, .str t0, .bool o0] ++ [.win g1 0 ks.length cap1]) elT))).upd g1 (some (.cells (elsC ks ++ rest1) elT))).upd g1 none = (H0.upd b (rd s j ty)).upd be (some (.cells ([.int .i64 pg, .str n, .str t0, .bool o0] ++ [.win g1 0 ks.length cap1]) elT)) := by
     rw [Hp.upd_upd]
     exact Hp.upd_id (by rw [Hp.upd_ne a2]; exact a1)
    rw [hXX] at hB3
    refine ⟨_, hB3, fun fr g0 h48 h58 fr1 l Q hs k _ => RG.st (ST.app_w ((hs 48 (by decide)).trans h48) hg1 (elsC_length ks) a3 (ys := Z5) (m := 1) (by show srcD _ 5 (fr1 58) = _; rw [hs 58 (by decide), h58]; rfl) (by omega) (fun g cap rest h1 h2 h3 => k _ _ ⟨g, cap, rest, rfl, h2, h3, ?_, rfl⟩))⟩
    rcases h1 with rfl | h1
    · exact Hp.upd_same
    · by_cases e : g = g1
      · rw [e]; exact Hp.upd_same
      · rw [Hp.upd_ne e]; exact h1
 refine VD.pe2 11 13 (by decide) rfl rfl rfl (EF.call rfl hkid) (bslE _ _) (fun d fr' H2 ⟨e, j, k1, k2, k3, k4⟩ => by rw [k2, k4]; exact hp e j fr' k1 k3) (fun _ _ _ h => h.elim) (fun d H2 ⟨⟨x, j⟩, e1, e2, e3⟩ => ⟨?_, ?_⟩) (fun d H2 ⟨⟨g0, e1⟩, e2⟩ => ⟨?_, ?_⟩)
 · subst e2; subst e3
   exact (by (repeat (refine stabAll_cons rfl (by first | exact Stab.ld rfl hbb rfl rfl | exact Stab.of rfl rfl | exact Stab.of (d := .int .i64 ks.length) hA.len rfl | exact Stab.of (evP_addI (a := deep) (b := 1) wh wh (by omega)) rfl) ?_)); exact stabAll_nil)
 · subst e2; subst e3
   refine VD.pe 13 rfl rfl (bslE _ _) (fun _ _ _ h => h.elim) (fun d H2 ⟨⟨g0, a1⟩, a2⟩ => ⟨?_, ?_⟩)
   · subst a1; subst a2
     exact (by (repeat (refine stabAll_cons rfl (by first | exact Stab.ld rfl hbb rfl rfl | exact Stab.of rfl rfl | exact Stab.of (d := .int .i64 ks.length) hA.len rfl | exact Stab.of (evP_addI (a := deep) (b := 1) wh wh (by omega)) rfl) ?_)); exact stabAll_nil)
   · subst a1; subst a2
     obtain ⟨B, hBB, hE14'⟩ := hE j
     have hE14 := fun fr h1 h2 => hE14' fr g0 h1 h2
     refine VD.pe 14 rfl rfl (hE14 _ rfl rfl) (fun _ _ _ h => h.elim) (fun d H3 ⟨g, cap, rest, f1, f2, f3, f4, f5⟩ => ⟨stabAll_nil, ?_⟩)
     subst f1
     have hgB := hBB.base f4
     have hgbe : g ≠ be := fun e => by rw [e, Hp.upd_same] at hgB; cases hgB
     have hH3g : H3 g = some (.cells (elsC ks ++ Z5 ++ rest) elT) := by rw [f5]; exact Hp.upd_same
     have hH3be : H3 be = some (.cells [.int .i64 pg, .str n, .str t0, .bool o0, K] elT) := by rw [f5, Hp.upd_ne (Ne.symm hgbe)]; exact hBB.look Hp.upd_same
     have hidx : iadrD 5 (.win g 0 (ks.length + 1) cap) (.int .i64 ks.length) = some (.ptr g (0 + ((ks.length : Nat) : Int).toNat * 5)) := if_pos (by omega)
     refine VD.pv 15 rfl rfl (d := .ptr g (0 + ((ks.length : Nat) : Int).toNat * 5)) hidx ?_
     refine VD.pv 17 rfl rfl wh ?_
     refine VD.pv 18 rfl rfl wh ?_
     have hle : 0 + ((ks.length : Nat) : Int).toNat * 5 + 5 ≤ (elsC ks ++ Z5 ++ rest).length := by
      rw [f3, Int.toNat_natCast]; omega
     have e16 : ∀ (fr : Fr) (HH : Hp), HH g = some (.cells (elsC ks ++ Z5 ++ rest) elT) → fr 60 = .ptr g (0 + ((ks.length : Nat) : Int).toNat * 5) → fr 56 = .agg (elC x) →
       EF prog G none F115.N ⟨none, none, .st 5 (.t 60) (.t 56)⟩ (fun d H4 => d = .junk ∧ H4 = HH.upd g (some (.cells (elsC (ks ++ [x]) ++ rest) elT))) (fun _ _ => False) fr HH :=
      fun fr HH h1 h2 h3 fr1 l Q hs k _ => RG.sto .d ((hs 60 (by decide)).trans h2) h1 ((hs 56 (by decide)).trans h3) rfl (elC_length x) hle (k _ _ ⟨rfl, by rw [splice_kid]⟩)
     have e19 : ∀ (fr : Fr) (HH : Hp), HH be = some (.cells [.int .i64 pg, .str n, .str t0, .bool o0, K] elT) → fr 62 = .ptr be 4 → fr 59 = .win g 0 (ks.length + 1) cap →
       EF prog G none F115.N ⟨none, none, .st 1 (.t 62) (.t 59)⟩ (fun d H4 => d = .junk ∧ H4 = HH.upd be (some (.cells ([.int .i64 pg, .str n, .str t0, .bool o0] ++ [.win g 0 (ks.length + 1) cap]) elT))) (fun _ _ => False) fr HH :=
      fun fr HH h1 h2 h3 fr1 l Q hs k _ => RG.sto .d ((hs 62 (by decide)).trans h2) h1 ((hs 59 (by decide)).trans h3) rfl rfl (by exact Nat.le_refl _) (k _ _ ⟨rfl, rfl⟩)
     refine VD.pe2 16 19 (by decide) rfl rfl rfl (e16 _ _ hH3g rfl rfl) (e19 _ _ hH3be rfl rfl) (fun _ _ _ h => h.elim) (fun _ _ _ h => h.elim) (fun d H4 ⟨_, f6⟩ => ⟨?_, ?_⟩) (fun d H4 ⟨_, f6⟩ => ⟨?_, ?_⟩)
     · repeat (refine stabAll_cons rfl (by first | exact Stab.of rfl rfl | exact Stab.of hidx rfl) ?_)
       exact stabAll_nil
     · refine VD.pe 19 rfl rfl (e19 _ _ (by rw [f6, Hp.upd_ne (Ne.symm hgbe)]; exact hH3be) rfl rfl) (fun _ _ _ h => h.elim) (fun d H5 ⟨_, f7⟩ => ⟨?_, ?_⟩)
       · repeat (refine stabAll_cons rfl (by first | exact Stab.of rfl rfl | exact Stab.of hidx rfl) ?_)
         exact stabAll_nil
       · refine VD.pd rfl (hk x j H5 e1 (WS.kid hne hS.hbe hBB f4 f2 f3 ?_) _ ⟨rfl, rfl, rfl, rfl, trivial⟩)
         rw [f7, f6, f5]
     · repeat (refine stabAll_cons rfl (by first | exact Stab.of rfl rfl | exact Stab.of hidx rfl) ?_)
       exact stabAll_nil
     · refine VD.pe 16 rfl rfl (e16 _ _ (by rw [f6, Hp.upd_ne hgbe]; exact hH3g) rfl rfl) (fun _ _ _ h => h.elim) (fun d H5 ⟨_, f7⟩ => ⟨?_, ?_⟩)
       · repeat (refine stabAll_cons rfl (by first | exact Stab.of rfl rfl | exact Stab.of hidx rfl) ?_)
         exact stabAll_nil
       · refine VD.pd rfl (hk x j H5 e1 (WS.kid hne hS.hbe hBB f4 f2 f3 ?_) _ ⟨rfl, rfl, rfl, rfl, trivial⟩)
         rw [f7, f6, f5]
         exact Hp.upd_comm (Ne.symm hgbe)
 · subst e1; subst e2
   exact (by (repeat (refine stabAll_cons rfl (by first | exact Stab.ld rfl hbb rfl rfl | exact Stab.of rfl rfl | exact Stab.of (d := .int .i64 ks.length) hA.len rfl | exact Stab.of (evP_addI (a := deep) (b := 1) wh wh (by omega)) rfl) ?_)); exact stabAll_nil)
 · subst e1; subst e2
   refine VD.pe 11 rfl rfl (EF.call rfl hkid) (fun d fr' H2 ⟨e, j, k1, k2, k3, k4⟩ => by rw [k2, k4]; exact hp e j fr' k1 k3) (fun d H2 ⟨⟨x, j⟩, e1, e2, e3⟩ => ⟨?_, ?_⟩)
   · subst e2; subst e3
     exact (by (repeat (refine stabAll_cons rfl (by first | exact Stab.ld rfl hbb rfl rfl | exact Stab.of rfl rfl | exact Stab.of (d := .int .i64 ks.length) hA.len rfl | exact Stab.of (evP_addI (a := deep) (b := 1) wh wh (by omega)) rfl) ?_)); exact stabAll_nil)
   · subst e2; subst e3
     obtain ⟨B, hBB, hE14'⟩ := hE j
     have hE14 := fun fr h1 h2 => hE14' fr g0 h1 h2
     refine VD.pe 14 rfl rfl (hE14 _ rfl rfl) (fun _ _ _ h => h.elim) (fun d H3 ⟨g, cap, rest, f1, f2, f3, f4, f5⟩ => ⟨stabAll_nil, ?_⟩)
     subst f1
     have hgB := hBB.base f4
     have hgbe : g ≠ be := fun e => by rw [e, Hp.upd_same] at hgB; cases hgB
     have hH3g : H3 g = some (.cells (elsC ks ++ Z5 ++ rest) elT) := by rw [f5]; exact Hp.upd_same
     have hH3be : H3 be = some (.cells [.int .i64 pg, .str n, .str t0, .bool o0, K] elT) := by rw [f5, Hp.upd_ne (Ne.symm hgbe)]; exact hBB.look Hp.upd_same
     have hidx : iadrD 5 (.win g 0 (ks.length + 1) cap) (.int .i64 ks.length) = some (.ptr g (0 + ((ks.length : Nat) : Int).toNat * 5)) := if_pos (by omega)
     refine VD.pv 15 rfl rfl (d := .ptr g (0 + ((ks.length : Nat) : Int).toNat * 5)) hidx ?_
     refine VD.pv 17 rfl rfl wh ?_
     refine VD.pv 18 rfl rfl wh ?_
     have hle : 0 + ((ks.length : Nat) : Int).toNat * 5 + 5 ≤ (elsC ks ++ Z5 ++ rest).length := by
      rw [f3, Int.toNat_natCast]; omega
     have e16 : ∀ (fr : Fr) (HH : Hp), HH g = some (.cells (elsC ks ++ Z5 ++ rest) elT) → fr 60 = .ptr g (0 + ((ks.length : Nat) : Int).toNat * 5) → fr 56 = .agg (elC x) →
       EF prog G none F115.N ⟨none, none, .st 5 (.t 60) (.t 56)⟩ (fun d H4 => d = .junk ∧ H4 = HH.upd g (some (.cells (elsC (ks ++ [x]) ++ rest) elT))) (fun _ _ => False) fr HH :=
      fun fr HH h1 h2 h3 fr1 l Q hs k _ => RG.sto .d ((hs 60 (by decide)).trans h2) h1 ((hs 56 (by decide)).trans h3) rfl (elC_length x) hle (k _ _ ⟨rfl, by rw [splice_kid]⟩)
     have e19 : ∀ (fr : Fr) (HH : Hp), HH be = some (.cells [.int .i64 pg, .str n, .str t0, .bool o0, K] elT) → fr 62 = .ptr be 4 → fr 59 = .win g 0 (ks.length + 1) cap →
       EF prog G none F115.N ⟨none, none, .st 1 (.t 62) (.t 59)⟩ (fun d H4 => d = .junk ∧ H4 = HH.upd be (some (.cells ([.int .i64 pg, .str n, .str t0, .bool o0] ++ [.win g 0 (ks.length + 1) cap]) elT))) (fun _ _ => False) fr HH :=
      fun fr HH h1 h2 h3 fr1 l Q hs k _ => RG.sto .d ((hs 62 (by decide)).trans h2) h1 ((hs 59 (by decide)).trans h3) rfl rfl (by exact Nat.le_refl _) (k _ _ ⟨rfl, rfl⟩)
     refine VD.pe2 16 19 (by decide) rfl rfl rfl (e16 _ _ hH3g rfl rfl) (e19 _ _ hH3be rfl rfl) (fun _ _ _ h => h.elim) (fun _ _ _ h => h.elim) (fun d H4 ⟨_, f6⟩ => ⟨?_, ?_⟩) (fun d H4 ⟨_, f6⟩ => ⟨?_, ?_⟩)
     · repeat (refine stabAll_cons rfl (by first | exact Stab.of rfl rfl | exact Stab.of hidx rfl) ?_)
       exact stabAll_nil
     · refine VD.pe 19 rfl rfl (e19 _ _ (by rw [f6, Hp.upd_ne (Ne.symm hgbe)]; exact hH3be) rfl rfl) (fun _ _ _ h => h.elim) (fun d H5 ⟨_, f7⟩ => ⟨?_, ?_⟩)
       · repeat (refine stabAll_cons rfl (by first | exact Stab.of rfl rfl | exact Stab.of hidx rfl) ?_)
         exact stabAll_nil
       · refine VD.pd rfl (hk x j H5 e1 (WS.kid hne hS.hbe hBB f4 f2 f3 ?_) _ ⟨rfl, rfl, rfl, rfl, trivial⟩)
         rw [f7, f6, f5]
     · repeat (refine stabAll_cons rfl (by first | exact Stab.of rfl rfl | exact Stab.of hidx rfl) ?_)
       exact stabAll_nil
     · refine VD.pe 16 rfl rfl (e16 _ _ (by rw [f6, Hp.upd_ne hgbe]; exact hH3g) rfl rfl) (fun _ _ _ h => h.elim) (fun d H5 ⟨_, f7⟩ => ⟨?_, ?_⟩)
       · repeat (refine stabAll_cons rfl (by first | exact Stab.of rfl rfl | exact Stab.of hidx rfl) ?_)
         exact stabAll_nil
       · refine VD.pd rfl (hk x j H5 e1 (WS.kid hne hS.hbe hBB f4 f2 f3 ?_) _ ⟨rfl, rfl, rfl, rfl, trivial⟩)
         rw [f7, f6, f5]
         exact Hp.upd_comm (Ne.symm hgbe)
theorem encode_len (n : Int) : (Utf8.encode n).data.toList.length ≤ 4 := by
 unfold Utf8.encode
 dsimp only
 generalize (if Utf8.valid n then n.toNat else Utf8.runeError) = c
 split
 · simp
 · split
   · simp
   · split <;> simp
theorem entityF_len {s : List UInt8} {i : Nat} {x : List UInt8} {j : Nat} (h : entityF s i = .ok (x, j)) : x.length ≤ 4 := by
 unfold entityF at h
 cases hf : ents.find? (fun p => p.1.isPrefixOf (s.drop i)) with
 | some p =>
   rw [hf] at h
   simp only [Except.ok.injEq, Prod.mk.injEq] at h
   obtain ⟨rfl, rfl⟩ := h
   have h2 := List.mem_of_find?_eq_some hf
   simp only [ents, List.mem_cons, List.not_mem_nil, or_false] at h2
   rcases h2 with rfl | rfl | rfl | rfl | rfl <;> simp
 | none =>
   rw [hf] at h
   dsimp only at h
   obtain ⟨e1, h⟩ := bif_ok h
   obtain ⟨e2, h⟩ := bif_ok h
   obtain ⟨_, h⟩ := bif_ok h
   simp only [Except.ok.injEq, Prod.mk.injEq] at h
   obtain ⟨rfl, _⟩ := h
   exact encode_len _
theorem uptoF_len {s t : List UInt8} {i : Nat} {x : List UInt8} {j : Nat} (h : uptoF s t i = .ok (x, j)) : x.length ≤ j - i := by
 unfold uptoF at h
 cases hc : cutO t (s.drop i) with
 | none => rw [hc] at h; cases h
 | some p =>
   rw [hc] at h
   simp only [Except.ok.injEq, Prod.mk.injEq] at h
   obtain ⟨rfl, rfl⟩ := h
   omega
theorem upto_ok' (hG : GOK G) {b : Nat} {s t : List UInt8} {i : Nat} {ty : TypeId} {H : Hp} (hb : H b = rd s i ty) (hi : i ≤ s.length) (hs : s.length + t.length < 4294967281) :
  CALL prog G 51 [.ptr b 0, .str t] H (Kr1 (uptoF s t i) (fun v => .str v.1) (·.2) s b ty H) (Kp1 (uptoF s t i) s b ty H) := by
 refine (upto_ok hG.ml hb hi hs).mono (fun d H' ⟨x, y, h1, h2, h3⟩ => ?_) (fun d H' ⟨h1, h2, h3⟩ => ?_)
 · exact ⟨(x, i + (x.length + t.length)), by rw [uptoF, h1], h2, h3⟩
 · exact ⟨((s.length : Nat), 1), i, by rw [uptoF, h1], h2, hi, by rw [h3]; exact (Hp.upd_id hb).symm⟩
def hdL : List UInt8 → Bool
 | [] => false
 | c :: _ => isLetter c
def KD (ks : List El) (K : DV) : Prop := (ks = [] ∧ K = .nils) ∨ K = .lst (elsC ks) ks.length 5 none
theorem within_call (hG : GOK G) {H : Hp} {s : List UInt8} {ty : TypeId} {b be i deep : Nat} {pg : Int} {n t0 : List UInt8} {o0 : Bool} {kid : Nat → RES (El × Nat)} {more : Bool}
  (hb : H b = rd s i ty) (hbe : H be = some (.cells [.int .i64 pg, .str n, .str t0, .bool o0, .nils] elT)) (hne : b ≠ be) (hi : i ≤ s.length) (hs : s.length ≤ 1000000) (hd : deep ≤ 12) (hm : more = decide (deep < 12))
  (hprog : ∀ i x j, i ≤ s.length → kid i = .ok (x, j) → i < j ∧ j ≤ s.length ∧ fits x)
  (hkid : deep < 12 → ∀ i' HH, HH b = rd s i' ty → i' ≤ s.length → CALL prog G 53 [.ptr b 0, .int .i64 pg, .int .i64 ((deep + 1 : Nat) : Int)] HH (Kr1 (kid i') (fun v => .agg (elC v.1)) (·.2) s b ty HH) (Kp1 (kid i') s b ty HH)) :
  CALL prog G 115 [.ptr b 0, .ptr be 0, .int .i64 deep] H
   (fun d H' => ∃ t ks j K, withinF s kid more (s.length + 1) i [] [] = .ok (t, ks, j) ∧ d = .str t ∧ KD ks K ∧ H' = ((H.upd be none).upd b (rd s j ty)).upd be (some (.cells [.int .i64 pg, .str n, .str t0, .bool o0, K] elT)))
   (Kp1 (withinF s kid more (s.length + 1) i [] []) s b ty (H.upd be none)) := by
 generalize hRR : withinF s kid more (s.length + 1) i [] [] = R
 generalize hH0 : H.upd be none = H0
 have hbe0 : H0 be = none := by rw [← hH0]; exact Hp.upd_same
 have hb0 : H0 b = rd s i ty := by rw [← hH0, Hp.upd_ne hne]; exact hb
 refine CALL.of cF115 (Nat.le_of_ble_eq_true rfl) ?_
 refine AC.seq (AC.reg ?_)
 refine go ?_
 refine RG.nilS (AC.seq (AC.reg ?_))
 refine RG.alloc .d fun bb hbb => ?_
 have hW0 : WS H0 s ty b be bb [.int .i64 pg, .str n, .str t0, .bool o0] i [] [] (H.upd bb (some (.cells [.nilp, .nils] 67))) := by
  refine ⟨hne, hbe0, .nils, H, false, ?_, .mt false hbb⟩
  have : (H0.upd b (rd s i ty)).upd be (some (.cells ([.int .i64 pg, .str n, .str t0, .bool o0] ++ [.nils]) elT)) = H := by
   rw [Hp.upd_id hb0, ← hH0, Hp.upd_upd]
   exact Hp.upd_id hbe
  have h2 := WST.nil (H0 := H0.upd b (rd s i ty)) (be := be) (p4 := [.int .i64 pg, .str n, .str t0, .bool o0])
  rw [this] at h2
  exact h2
 have bad : ∀ {e : Int × Int} {j : Nat} {ks' : List El} {txt' : List UInt8} {HH : Hp}, R = .error e → j ≤ s.length → WS H0 s ty b be bb [.int .i64 pg, .str n, .str t0, .bool o0] j ks' txt' HH → ∃ H', SubH H' HH ∧ Kp1 R s b ty H0 (fault e.1 e.2) H' :=
  fun {e j _ _ _} h1 h2 h3 => ⟨_, h3.sub, e, j, h1, rfl, h2, rfl⟩
 refine RG.nilS (AC.seq ?_)
 refine AC.bloopH (α := Nat × Nat × List UInt8 × List El) (β := Nat × List UInt8 × List El) (fun a => a.1) (fun _ => [(0, .ptr b 0), (1, .ptr be 0), (2, .int .i64 deep), (7, .ptr bb 0)])
  (fun a H' => WS H0 s ty b be bb [.int .i64 pg, .str n, .str t0, .bool o0] a.2.1 a.2.2.2 a.2.2.1 H' ∧ withinF s kid more a.1 a.2.1 a.2.2.1 a.2.2.2 = R ∧ a.2.1 ≤ s.length ∧ s.length < a.2.1 + a.1 ∧ a.2.2.1.length ≤ 4 * a.2.1 ∧ a.2.2.2.length ≤ 200)
  (fun _ => [(7, .ptr bb 0)]) (fun a H' => WS H0 s ty b be bb [.int .i64 pg, .str n, .str t0, .bool o0] a.1 a.2.2 a.2.1 H' ∧ R = .ok (a.2.1, a.2.2, a.1) ∧ a.2.1.length ≤ 4000000) ?_ ?_ (s.length + 1, i, [], []) _ ⟨hW0, hRR, hi, by dsimp only; omega, by simp, by simp⟩ ⟨rfl, rfl, rfl, rfl, trivial⟩
 · rintro ⟨j, txt, ks⟩ He fr ⟨hS, hR, hl⟩ hfr
   dsimp only at hS hR hl
   obtain ⟨K, A, u, h1, h2⟩ := hS.st
   refine AC.to _ hfr (AC.seq (AC.reg ?_))
   refine RG.callR .d rfl (String_ok h2 (by omega)) ?_
   refine go ?_
   refine RG.nilS (AC.ret ?_)
   cases h1 with
   | nil => exact fin rfl ⟨txt, [], j, .nils, hR, rfl, .inl ⟨rfl, rfl⟩, rfl⟩
   | on g cap rest _ g1 g2 g3 g4 =>
     have hcv := Cv.freeze (H := ((H0.upd b (rd s j ty)).upd be (some (.cells ([.int .i64 pg, .str n, .str t0, .bool o0] ++ [.win g 0 ks.length cap]) elT))).upd g (some (.cells (elsC ks ++ rest) elT))) (be := be) (g := g) (n := ks.length) (cap := cap) (sz := 5) (k := 4)
      (d := .str txt) (by rw [Hp.upd_ne (Ne.symm g2)]; exact Hp.upd_same) rfl Hp.upd_same (elsC_length ks) g2
     rw [Hp.upd_upd, Hp.upd_id (show ((H0.upd b (rd s j ty)).upd be (some (.cells ([.int .i64 pg, .str n, .str t0, .bool o0] ++ [.win g 0 ks.length cap]) elT))) g = none by rw [Hp.upd_ne g2]; exact g1), Hp.upd_upd] at hcv
     exact ⟨[.str txt], .str txt, _, rfl, hcv, txt, ks, j, _, hR, rfl, .inr rfl, rfl⟩
 · rintro ⟨f, i, txt, ks⟩ H' ⟨hS, hR, hi, hf, htl, hkl⟩ ih ex
   dsimp only at hS hR hi hf htl hkl ih
   obtain ⟨f, rfl⟩ : ∃ f', f = f' + 1 := ⟨f - 1, by omega⟩
   rw [withinF] at hR
   have again : ∀ {j : Nat} {txt' : List UInt8} {ks' : List El} {H2 : Hp}, WS H0 s ty b be bb [.int .i64 pg, .str n, .str t0, .bool o0] j ks' txt' H2 → withinF s kid more f j txt' ks' = R → i < j → j ≤ s.length → txt'.length ≤ 4 * j → ks'.length ≤ 200 →
     ∀ fr, Agrees fr [(0, .ptr b 0), (1, .ptr be 0), (2, .int .i64 deep), (7, .ptr bb 0)] → _ :=
    fun {j txt' ks' H2} h1 h2 h3 h4 h5 h6 fr hfr => ih (f, j, txt', ks') H2 ⟨h1, h2, h4, by dsimp only; omega, h5, h6⟩ (by dsimp only; omega) fr hfr
   refine AC.seq (AC.seq (AC.reg ?_))
   refine go1 ?_
   refine RG.callR .d rfl (has_ok (t := [60, 47]) hS.rd hi (by simp; omega)) ?_
   cases e1 : List.isPrefixOf [60, 47] (s.drop i)
   case true =>
    rw [e1, cond_true] at hR
    have hpl := prefix_le e1 (by simp)
    simp only [List.length_cons, List.length_nil] at hpl
    refine go ?_
    refine RG.nilS (AC.cond_f rfl (AC.exit ?_))
    exact ex (i + 2, txt, ks) _ _ ⟨hS.upd (i + 2), hR.symm, by dsimp only; omega⟩ ⟨rfl, trivial⟩
   rw [e1, cond_false] at hR
   rw [cond_false, Hp.upd_id hS.rd]
   refine go ?_
   refine RG.nilS (AC.cond_t rfl (AC.skip (AC.block (AC.seq (AC.drawV [1] rfl ?_)))))
   have hrd := hS.rd
   first|refine VD.z0 0 ?_|refine VD.z1 0 ?_|refine VD.z2 0 ?_|refine VD.z3 0 ?_|refine VD.z4 0 ?_|refine VD.z5 0 ?_
   first|refine VD.z0 2 ?_|refine VD.z1 2 ?_|refine VD.z2 2 ?_|refine VD.z3 2 ?_|refine VD.z4 2 ?_|refine VD.z5 2 ?_
   first|refine VD.z0 3 ?_|refine VD.z1 3 ?_|refine VD.z2 3 ?_|refine VD.z3 3 ?_|refine VD.z4 3 ?_|refine VD.z5 3 ?_
   first|refine VD.z0 4 ?_|refine VD.z1 4 ?_|refine VD.z2 4 ?_|refine VD.z3 4 ?_|refine VD.z4 4 ?_|refine VD.z5 4 ?_
   first|refine VD.z0 5 ?_|refine VD.z1 5 ?_|refine VD.z2 5 ?_|refine VD.z3 5 ?_|refine VD.z4 5 ?_|refine VD.z5 5 ?_
   refine VD.pe (K := fun d H2 => d = .str (s.drop i) ∧ H2 = H') (Kp := fun _ _ => False) 1 rfl rfl (EF.call rfl (left_ok hrd hi)) (fun _ _ _ h => h.elim) (fun d H2 ⟨f1, f2⟩ => ?_)
   subst f1; subst f2
   refine ⟨stb, ?_⟩
   first|refine VD.z0 6 ?_|refine VD.z1 6 ?_|refine VD.z2 6 ?_|refine VD.z3 6 ?_|refine VD.z4 6 ?_|refine VD.z5 6 ?_
   first|refine VD.z0 7 ?_|refine VD.z1 7 ?_|refine VD.z2 7 ?_|refine VD.z3 7 ?_|refine VD.z4 7 ?_|refine VD.z5 7 ?_
   refine VD.pd rfl ?_
   refine AC.to [(0, .ptr b 0), (1, .ptr be 0), (2, .int .i64 deep), (7, .ptr bb 0), (8, .str (s.drop i)), (9, .int .i64 i)] ⟨rfl, rfl, rfl, rfl, rfl, rfl, trivial⟩ (AC.seq (AC.reg ?_))
   refine go ?_
   refine RG.call .d rfl (need_ok (!(s.drop i == [])) i 1 _) (fun d H3 ⟨g1, g2, g3⟩ => ?_) (fun d H3 ⟨g1, g2, g3⟩ => ?_)
   rotate_left
   · subst g2; subst g3
     have hnil : s.drop i = [] := by simpa using g1
     rw [hnil] at hR
     exact bad (e := (i, 1)) hR.symm hi hS
   subst g2; subst g3
   cases hd : s.drop i with
   | nil => rw [hd] at g1; cases g1
   | cons c l =>
   have hlt : i < s.length := by
    have := congrArg List.length hd
    simp only [List.length_drop, List.length_cons] at this
    omega
   rw [hd] at hR
   dsimp only at hR
   refine RG.nilS (AC.block (AC.seq (AC.reg ?_)))
   refine go1 ?_
   refine RG.at (b := c) .d wh wh (by omega) rfl ?_
   refine RG.p (d := .bool (c == 38)) .d (by show some (DV.bool ((c.toNat : Int) == 38)) = _; rw [show ((c.toNat : Int) == 38) = (c == 38) from u8eq c 38]) ?_
   refine go ?_
   cases e2 : c == 38
   case true =>
    rw [e2, cond_true] at hR
    refine RG.nilS (AC.cond_t rfl (AC.reg ?_))
    refine go1 ?_
    refine RG.call .d rfl (entity_ok hS.rd hi (by omega)) (fun d H3 ⟨⟨x, j⟩, h1, h2, h3⟩ => ?_) (fun d H3 ⟨e, j, h1, h2, h3, h4⟩ => ?_)
    · subst h2; subst h3
      rw [h1] at hR
      have hp := entityF_prog h1
      have hxl := entityF_len h1
      have hS2 := hS.upd j
      obtain ⟨A, u, hB, hBk⟩ := hS2.bld
      refine RG.call .d rfl (WriteString_ok (s := x) hB (by omega)) (fun d H4 ⟨_, hB4⟩ => ?_) (fun _ _ h => h.elim)
      exact RG.nil (again (hBk _ _ _ hB4) hR hp.1 hp.2 (by rw [List.length_append]; omega) hkl _ ⟨rfl, rfl, rfl, rfl, trivial⟩)
    · subst h2; subst h4
      rw [h1] at hR
      exact bad hR.symm h3 (hS.upd j)
   rw [e2, cond_false] at hR
   refine RG.nilS (AC.cond_f rfl (AC.seq (AC.reg ?_)))
   refine go1 ?_
   refine RG.callR .d rfl (has_ok (t := rawM) hS.rd hi (by simp [rawM]; omega)) ?_
   rw [hd]
   cases e3 : List.isPrefixOf rawM (c :: l)
   case true =>
    rw [e3, cond_true] at hR
    have hpl := prefix_le (t := rawM) (s := s) (i := i) (by rw [hd]; exact e3) (by simp [rawM])
    have hr9 : rawM.length = 9 := rfl
    rw [hr9] at hpl
    refine go ?_
    refine RG.nilS (AC.cond_t rfl (AC.reg ?_))
    have hS2 := hS.upd (i + 9)
    refine go1 ?_
    refine RG.call .d rfl (upto_ok' hG (t := rawEnd) hS2.rd hpl (by simp [rawEnd]; omega)) (fun d H3 ⟨⟨x, j⟩, h1, h2, h3⟩ => ?_) (fun d H3 ⟨e, j, h1, h2, h3, h4⟩ => ?_)
    · subst h2; subst h3
      rw [h1] at hR
      have hp := uptoF_prog h1 hpl
      have hxl := uptoF_len h1
      have hS3 := hS2.upd j
      obtain ⟨A, u, hB, hBk⟩ := hS3.bld
      refine RG.call .d rfl (WriteString_ok (s := x) hB (by omega)) (fun d H4 ⟨_, hB4⟩ => ?_) (fun _ _ h => h.elim)
      exact RG.nil (again (hBk _ _ _ hB4) hR (by omega) hp.2 (by rw [List.length_append]; omega) hkl _ ⟨rfl, rfl, rfl, rfl, trivial⟩)
    · subst h2; subst h4
      rw [h1] at hR
      exact bad hR.symm h3 (hS2.upd j)
   rw [e3, cond_false] at hR
   rw [cond_false, Hp.upd_id hS.rd]
   refine go ?_
   refine RG.nilS (AC.cond_f rfl (AC.seq (AC.reg ?_)))
   refine go1 ?_
   refine RG.callR .d rfl (has_ok (t := remM) hS.rd hi (by simp [remM]; omega)) ?_
   rw [hd]
   cases e4 : List.isPrefixOf remM (c :: l)
   case true =>
    rw [e4, cond_true] at hR
    have hpl := prefix_le (t := remM) (s := s) (i := i) (by rw [hd]; exact e4) (by simp [remM])
    have hr9 : remM.length = 4 := rfl
    rw [hr9] at hpl
    refine go ?_
    refine RG.nilS (AC.cond_t rfl (AC.reg ?_))
    have hS2 := hS.upd (i + 4)
    refine go1 ?_
    refine RG.call .d rfl (upto_ok' hG (t := remEnd) hS2.rd hpl (by simp [remEnd]; omega)) (fun d H3 ⟨⟨x, j⟩, h1, h2, h3⟩ => ?_) (fun d H3 ⟨e, j, h1, h2, h3, h4⟩ => ?_)
    · subst h2; subst h3
      rw [h1] at hR
      have hp := uptoF_prog h1 hpl
      exact RG.nil (again (hS2.upd j) hR (by omega) hp.2 (by omega) hkl _ ⟨rfl, rfl, rfl, rfl, trivial⟩)
    · subst h2; subst h4
      rw [h1] at hR
      exact bad hR.symm h3 (hS2.upd j)
   rw [e4, cond_false] at hR
   rw [cond_false, Hp.upd_id hS.rd]
   refine go ?_
   refine RG.nilS (AC.cond_f rfl (AC.seq (AC.reg ?_)))
   refine go1 ?_
   refine RG.at (b := c) .d wh wh (by omega) rfl ?_
   refine RG.p (d := .bool (!(c == 60))) .d (by show some (DV.bool ((c.toNat : Int) != 60)) = _; rw [bne, show ((c.toNat : Int) == 60) = (c == 60) from u8eq c 60]) ?_
   refine go ?_
   cases e5 : c == 60
   case false =>
    rw [e5] at hR
    refine RG.nilS (AC.cond_t rfl (AC.seq (AC.reg ?_)))
    refine go1 ?_
    refine RG.at (b := c) .d wh wh (by omega) rfl ?_
    obtain ⟨A, u, hB, hBk⟩ := hS.bld
    refine RG.call .d rfl (WriteByte_ok hB (by omega)) (fun d H4 ⟨_, hB4⟩ => ?_) (fun _ _ h => h.elim)
    have hS4 := hBk _ _ _ hB4
    refine RG.nilS (AC.reg ?_)
    have hrd4 := hS4.rd
    refine go ?_
    exact RG.nil (again (hS4.upd (i + 1)) hR (by omega) (by omega) (by rw [List.length_append, List.length_singleton]; omega) hkl _ ⟨rfl, rfl, rfl, rfl, trivial⟩)
   rw [e5, Bool.not_true, cond_false] at hR
   change (bif !(hdL l) then .error ((i : Nat), 3) else bif !more then .error ((i : Nat), 9) else bif !(decide (ks.length < 200)) then .error ((i : Nat), 4) else match kid i with | .error e => .error e | .ok (x, j) => withinF s kid more f j txt (ks ++ [x])) = R at hR
   refine RG.nilS (AC.cond_f rfl (AC.seq ?_))
   refine AC.mono (Q := fun e fr2 H2 => match e with
    | .normal => H2 = H3 ∧ hdL l = true ∧ Agrees fr2 [(0, .ptr b 0), (1, .ptr be 0), (2, .int .i64 deep), (7, .ptr bb 0), (9, .int .i64 i)]
    | .panic d => d = fault i 3 ∧ H2 = H3 ∧ hdL l = false
    | _ => False) (AC.reg ?_) ?_
   · refine go1 ?_
     refine RG.p (d := .int .i64 ((c :: l).length : Nat)) .d rfl ?_
     refine RG.p (d := .bool (decide (1 < (c :: l).length))) .d (by
      show some (DV.bool (decide ((((c :: l).length : Nat) : Int) > 1))) = _
      congr 2
      rw [decide_eq_decide]; omega) ?_
     cases l with
     | nil =>
       refine go ?_
       refine RG.call .d rfl (need_ok false i 3 _) (fun d H5 ⟨k1, _⟩ => by cases k1) (fun d H5 ⟨_, k2, k3⟩ => ⟨k2, k3, rfl⟩)
     | cons c2 l =>
       have : decide (1 < (c :: c2 :: l).length) = true := by simp
       rw [this]
       refine go1 ?_
       refine go1 ?_
       refine RG.at (b := c2) .d wh wh (by omega) rfl ?_
       refine RG.callP .d rfl (letter_ok c2) ?_
       refine go ?_
       exact RG.call .d rfl (need_ok (isLetter c2) i 3 _) (fun d H5 ⟨k1, k2, k3⟩ => RG.nil ⟨k3, k1, rfl, rfl, rfl, rfl, rfl, trivial⟩) (fun d H5 ⟨k1, k2, k3⟩ => ⟨k2, k3, k1⟩)
   rintro e fr2 H2 hq
   cases e with
   | exit id => exact hq.elim
   | ret => exact hq.elim
   | panic d =>
     obtain ⟨k1, k2, k3⟩ := hq
     subst k1; subst k2
     rw [k3] at hR
     exact bad (e := (i, 3)) hR.symm hi hS
   | normal =>
   obtain ⟨k1, k2, k3⟩ := hq
   subst k1
   rw [k2, Bool.not_true, cond_false] at hR
   refine AC.to _ k3 (AC.seq (AC.reg ?_))
   refine go1 ?_
   refine RG.p (d := .bool more) .d (by
    show some (DV.bool (decide ((deep : Int) < 12))) = _
    rw [hm]
    congr 2
    rw [decide_eq_decide]; omega) ?_
   refine go1 ?_
   refine RG.call .d rfl (need_ok more i 9 _) (fun d H3 ⟨k1, k2, k3⟩ => ?_) (fun d H3 ⟨k1, k2, k3⟩ => ?_)
   rotate_left
   · subst k2; subst k3
     rw [k1] at hR
     exact bad (e := (i, 9)) hR.symm hi hS
   subst k2; subst k3
   rw [k1, Bool.not_true, cond_false] at hR
   have hdeep : deep < 12 := by rw [k1] at hm; exact of_decide_eq_true hm.symm
   have again2 := @again
   rw [k1] at again2
   clear again
   refine RG.nilS (AC.seq (AC.reg ?_))
   obtain ⟨K, hK1, hK2⟩ := hS.var
   refine go1 ?_
   refine go1 ?_
   refine go1 ?_
   refine RG.ld .d wh hK1 (d := K) rfl ?_
   refine RG.p (d := .int .i64 ks.length) .d hK2 ?_
   have h200 : decide (((ks.length : Nat) : Int) < 200) = decide (ks.length < 200) := by rw [decide_eq_decide]; omega
   refine RG.p (d := .bool (decide (((ks.length : Nat) : Int) < 200))) .d rfl ?_
   rw [h200]
   refine go1 ?_
   refine RG.call .d rfl (need_ok (decide (ks.length < 200)) i 4 _) (fun d H3 ⟨k1, k2, k3⟩ => ?_) (fun d H3 ⟨k1, k2, k3⟩ => ?_)
   rotate_left
   · subst k2; subst k3
     rw [k1] at hR
     exact bad (e := (i, 4)) hR.symm hi hS
   subst k2; subst k3
   rw [k1, Bool.not_true, cond_false] at hR
   have hk200 := of_decide_eq_true k1
   refine RG.nilS (AC.to [(0, .ptr b 0), (1, .ptr be 0), (2, .int .i64 deep), (7, .ptr bb 0)] ⟨rfl, rfl, rfl, rfl, trivial⟩ ?_)
   refine kid_reg hS (by omega) hkl (hkid hdeep i _ hS.rd hi) (fun e j fr' h1 h2 => ?_) (fun x j H2 h1 h2 fr' hfr' => ?_)
   · rw [h1] at hR
     exact bad hR.symm h2 (hS.upd j)
   · rw [h1] at hR
     have hp := hprog i x j hi h1
     exact again2 h2 hR hp.1 hp.2.1 (by omega) (by simp; omega) fr' hfr'
def F53 : FN := ⟨152, (.seq (.reg [ji 6 (.alloc [(.int .i64 0), (.str []), (.str []), (.bool false), .nils] 24)])
 (.scp (.seq (.draw [ji 17 (.mv (.t 0)), ji 18 (.call 55 [(.t 17)]), ji 19 (.bin .neq (.t 18) (.c (.str []))), ji 20 (.mv (.t 0)), ji 21 (.nilc (.t 20)), ji 22 (.fadr 1 (.t 21)), ji 23 (.ld false 1 (.t 22)), ji 24 (.call 54 [(.t 19), (.t 23), (ci 1)])] [[], [0], [1], [], [3], [4], [5], [2, 6, 1]])
 (.seq (.reg [ji 25 (.mv (.t 0)), ji 26 (.nilc (.t 25)), ji 27 (.fadr 1 (.t 26)), ji 28 (.ld false 1 (.t 27)), ji 7 (.mv (.t 28))])
 (.seq (.reg [ji 29 (.mv (.t 0)), ji 30 (.call 50 [(.t 29), (.c (.str [60]))]), ji 31 (.mv (.t 7)), ji 32 (.call 54 [(.t 30), (.t 31), (ci 3)])])
 (.seq (.reg [ji 33 (.mv (.t 0)), ji 34 (.nilc (.t 33)), ji 35 (.fadr 1 (.t 34)), ji 36 (.ld false 1 (.t 35)), ji 8 (.mv (.t 36))])
 (.seq (.reg [ji 37 (.mv (.t 1)), ji 38 (.mv (.t 0)), ji 39 (.call 112 [(.t 38)]), ji 40 (.bld [(.int .i64 0), (.str []), (.str []), (.bool false), .nils] [(0, 1, (.t 37)), (1, 1, (.t 39))]), ji 9 (.alloc [(.int .i64 0), (.str []), (.str []), (.bool false), .nils] 24), jn (.st 5 (.t 9) (.t 40))])
 (.seq (.reg [ji 41 (.fadr 1 (.t 9)), ji 42 (.ld false 1 (.t 41)), ji 43 (.bin .neq (.t 42) (.c (.str []))), ji 44 (.mv (.t 43)), jg 45 44 true (.fadr 1 (.t 9)), jg 46 44 true (.ld false 1 (.t 45)), jg 47 44 true (.idx (.t 46) (ci 0)), jg 48 44 true (.call 113 [(.t 47)]), ji 49 (.pick (.t 44) (.t 48) (.c (.bool false))), ji 50 (.mv (.t 49)), jg 51 50 true (.fadr 1 (.t 9)), jg 52 50 true (.ld false 1 (.t 51)), jg 53 50 true (.len true (.t 52)), jg 54 50 true (.bin .leq (.t 53) (ci 32)), ji 55 (.pick (.t 50) (.t 54) (.c (.bool false))), ji 56 (.mv (.t 8)), ji 57 (.call 54 [(.t 55), (.t 56), (ci 14)])])
 (.seq (.reg [ji 10 (.mv (.c (.bool false))), ji 11 (.mv (.c (.bool false)))])
 (.seq .skip
 (.seq (.block 0 (.loop (.block 1 (.seq (.reg [ji 58 (.mv (.t 0)), ji 59 (.call 52 [(.t 58)]), ji 12 (.mv (.t 59))])
 (.seq (.reg [ji 60 (.mv (.t 0)), ji 61 (.nilc (.t 60)), ji 62 (.fadr 1 (.t 61)), ji 63 (.ld false 1 (.t 62)), ji 8 (.mv (.t 63))])
 (.block 2 (.seq (.reg [ji 67 (.mv (.t 0)), ji 68 (.call 50 [(.t 67), (.c (.str [47, 62]))]), ji 66 (.mv (.t 68))])
 (.cond (.t 66) (.seq (.reg [ji 69 (.ld true 5 (.t 9)), jn (.st 5 (.t 6) (.t 69))])
 .ret)
 (.seq (.reg [ji 71 (.mv (.t 0)), ji 72 (.call 50 [(.t 71), (.c (.str [62]))]), ji 70 (.mv (.t 72))])
 (.cond (.t 70) (.exit 0)
 (.seq (.reg [ji 74 (.mv (.t 12)), ji 75 (.un .not (.t 74)), ji 73 (.mv (.t 75))])
 (.cond (.t 73) (.reg [ji 76 (.mv (.t 8)), ji 77 (.call 54 [(.c (.bool false)), (.t 76), (ci 3)])])
 (.seq (.reg [ji 79 (.mv (.t 0)), ji 80 (.call 50 [(.t 79), (.c (.str [120, 109, 108, 110, 115, 61, 34]))]), ji 78 (.mv (.t 80))])
 (.cond (.t 78) (.seq (.reg [ji 81 (.mv (.t 10)), ji 82 (.un .not (.t 81)), ji 83 (.mv (.t 8)), ji 84 (.call 54 [(.t 82), (.t 83), (ci 11)])])
 (.seq (.reg [ji 10 (.mv (.c (.bool true)))])
 (.seq (.reg [ji 85 (.mv (.t 0)), ji 86 (.call 51 [(.t 85), (.c (.str [34]))]), ji 87 (.call 114 [(.t 86)]), ji 88 (.fadr 0 (.t 9)), jn (.st 1 (.t 88) (.t 87))])
 (.reg [ji 89 (.fadr 0 (.t 9)), ji 90 (.ld false 1 (.t 89)), ji 91 (.bin .geq (.t 90) (ci 0)), ji 92 (.mv (.t 8)), ji 93 (.call 54 [(.t 91), (.t 92), (ci 5)])]))))
 (.seq (.reg [ji 95 (.mv (.t 0)), ji 96 (.call 50 [(.t 95), (.c (.str [101, 110, 99, 61, 34]))]), ji 94 (.mv (.t 96))])
 (.cond (.t 94) (.seq (.reg [ji 97 (.mv (.t 11)), ji 98 (.un .not (.t 97)), ji 99 (.mv (.t 8)), ji 100 (.call 54 [(.t 98), (.t 99), (ci 11)])])
 (.seq (.reg [ji 11 (.mv (.c (.bool true)))])
 (.reg [ji 101 (.mv (.t 0)), ji 102 (.call 51 [(.t 101), (.c (.str [34]))]), ji 103 (.bin .eql (.t 102) (.c (.str [98, 54, 52]))), ji 104 (.mv (.t 8)), ji 105 (.call 54 [(.t 103), (.t 104), (ci 5)])])))
 (.reg [ji 64 (.mv (.t 8)), ji 65 (.call 54 [(.c (.bool false)), (.t 64), (ci 3)])])))))))))))))))))
 (.seq (.reg [ji 106 (.mv (.t 0)), ji 107 (.mv (.t 2)), ji 108 (.call 115 [(.t 106), (.t 9), (.t 107)]), ji 13 (.mv (.t 108))])
 (.seq (.reg [ji 109 (.mv (.t 0)), ji 110 (.nilc (.t 109)), ji 111 (.fadr 1 (.t 110)), ji 112 (.ld false 1 (.t 111)), ji 113 (.bin .sub (.t 112) (ci 2)), ji 14 (.mv (.t 113))])
 (.seq (.reg [ji 114 (.mv (.t 0)), ji 115 (.fadr 1 (.t 9)), ji 116 (.ld false 1 (.t 115)), ji 117 (.call 116 [(.t 114), (.t 116)])])
 (.seq (.block 3 (.seq (.reg [ji 121 (.fadr 4 (.t 9)), ji 122 (.ld false 1 (.t 121)), ji 123 (.len false (.t 122)), ji 124 (.bin .gtr (.t 123) (ci 0)), ji 120 (.mv (.t 124))])
 (.cond (.t 120) (.reg [ji 125 (.mv (.t 11)), ji 126 (.un .not (.t 125)), ji 127 (.mv (.t 126)), jg 128 127 true (.mv (.t 13)), jg 129 127 true (.call 117 [(.t 128), (.c (.str [32, 9, 10, 13]))]), jg 130 127 true (.bin .eql (.t 129) (.c (.str []))), ji 131 (.pick (.t 127) (.t 130) (.c (.bool false))), ji 132 (.mv (.t 14)), ji 133 (.call 54 [(.t 131), (.t 132), (ci 7)])])
 (.seq (.reg [ji 135 (.mv (.t 11)), ji 134 (.mv (.t 135))])
 (.cond (.t 134) (.seq (.reg [ji 137 (.mv (.t 13)), ji 138 (.call 118 [(.t 137)]), ji 136 (.mv (.t 138)), ji 139 (.ext (.t 136) 0), ji 140 (.ext (.t 136) 1), ji 15 (.mv (.t 139)), ji 16 (.mv (.t 140))])
 (.seq (.reg [ji 141 (.mv (.t 16)), ji 142 (.bin .eql (.t 141) (ci 0)), ji 143 (.mv (.t 14)), ji 144 (.mv (.t 16)), ji 145 (.call 54 [(.t 142), (.t 143), (.t 144)])])
 (.reg [ji 146 (.mv (.t 15)), ji 147 (.mv (.t 15)), ji 148 (.bin .neq (.t 147) (.c (.str []))), ji 149 (.fadr 2 (.t 9)), jn (.st 1 (.t 149) (.t 146)), ji 150 (.fadr 3 (.t 9)), jn (.st 1 (.t 150) (.t 148))])))
 (.reg [ji 118 (.mv (.t 13)), ji 119 (.fadr 2 (.t 9)), jn (.st 1 (.t 119) (.t 118))]))))))
 (.seq (.reg [ji 151 (.ld true 5 (.t 9)), jn (.st 5 (.t 6) (.t 151))])
 .ret)))))))))))))))), [.cell 6 true 5]⟩
theorem cF53 : cFn prog 53 = some F53 := by kernel_rfl
theorem attrsF_prog {s : List UInt8} : ∀ (f i : Nat) (pg : Int) (nm by_ : Bool) (c : Bool) (j : Nat) (p : Int) (y : Bool), attrsF s f i pg nm by_ = .ok (c, j, p, y) → i ≤ s.length → i < j ∧ j ≤ s.length
 | 0, _, _, _, _, _, _, _, _, h, _ => by simp [attrsF] at h
 | f + 1, i, pg, nm, by_, c, j, p, y, h, hi => by
   rw [attrsF] at h
   try dsimp only at h
   have hw := wsN_le (s.drop i)
   rw [List.length_drop] at hw
   cases e1 : List.isPrefixOf [47, 62] (s.drop (i + wsN (s.drop i)))
   case true =>
    rw [e1] at h
    simp only [cond_true, Except.ok.injEq, Prod.mk.injEq] at h
    have := prefix_le e1 (by simp)
    simp only [List.length_cons, List.length_nil] at this
    omega
   rw [e1, cond_false] at h
   cases e2 : List.isPrefixOf [62] (s.drop (i + wsN (s.drop i)))
   case true =>
    rw [e2] at h
    simp only [cond_true, Except.ok.injEq, Prod.mk.injEq] at h
    have := prefix_le e2 (by simp)
    simp only [List.length_cons, List.length_nil] at this
    omega
   rw [e2, cond_false] at h
   obtain ⟨_, h⟩ := bif_ok h
   cases e3 : List.isPrefixOf spaceMark (s.drop (i + wsN (s.drop i)))
   case true =>
    rw [e3, cond_true] at h
    obtain ⟨_, h⟩ := bif_ok h
    have hpl := prefix_le e3 (by simp [spaceMark])
    have h7 : spaceMark.length = 7 := rfl
    rw [h7] at hpl
    cases hu : uptoF s [34] (i + wsN (s.drop i) + 7) with
    | error e => rw [hu] at h; cases h
    | ok q =>
      obtain ⟨v, k⟩ := q
      rw [hu] at h
      dsimp only at h
      have hp := uptoF_prog hu hpl
      cases e4 : decide (pageOf v ≥ 0)
      · rw [e4] at h; cases h
      · rw [e4] at h
        have := attrsF_prog f k _ _ _ _ _ _ _ h hp.2
        omega
   rw [e3, cond_false] at h
   cases e5 : List.isPrefixOf codeMark (s.drop (i + wsN (s.drop i)))
   · rw [e5] at h; cases h
   rw [e5, cond_true] at h
   obtain ⟨_, h⟩ := bif_ok h
   have hpl := prefix_le e5 (by simp [codeMark])
   have h5 : codeMark.length = 5 := rfl
   rw [h5] at hpl
   cases hu : uptoF s [34] (i + wsN (s.drop i) + 5) with
   | error e => rw [hu] at h; cases h
   | ok q =>
     obtain ⟨v, k⟩ := q
     rw [hu] at h
     dsimp only at h
     have hp := uptoF_prog hu hpl
     cases e4 : v == b64
     · rw [e4] at h; cases h
     · rw [e4] at h
       have := attrsF_prog f k _ _ _ _ _ _ _ h hp.2
       omega
theorem closeF_prog {s n : List UInt8} {i q : Nat} (h : closeF s n i = .ok q) : i < q ∧ q ≤ s.length := by
 unfold closeF at h
 dsimp only at h
 obtain ⟨_, h⟩ := bif_ok h
 obtain ⟨_, h⟩ := bif_ok h
 cases e1 : List.isPrefixOf [62] (s.drop (i + span isNameC s.length (s.drop i) + wsN (s.drop (i + span isNameC s.length (s.drop i)))))
 · rw [e1] at h; cases h
 rw [e1] at h
 simp only [cond_true, Except.ok.injEq] at h
 have := prefix_le e1 (by simp)
 simp only [List.length_cons, List.length_nil] at this
 omega
theorem withinF_len {s : List UInt8} {kid : Nat → RES (El × Nat)} {more : Bool} (hk : ∀ i x j, i ≤ s.length → kid i = .ok (x, j) → i < j ∧ j ≤ s.length ∧ fits x) : ∀ (f i : Nat) (b : List UInt8) (ks : List El) (t : List UInt8) (ks' : List El) (m : Nat),
  withinF s kid more f i b ks = .ok (t, ks', m) → i ≤ s.length → t.length + 4 * i ≤ b.length + 4 * m
 | 0, i, b, ks, t, ks', m, h, _ => by simp [withinF] at h
 | f + 1, i, b, ks, t, ks', m, h, hi => by
   rw [withinF] at h
   cases e1 : List.isPrefixOf [60, 47] (s.drop i)
   case true =>
    rw [e1] at h
    simp only [cond_true, Except.ok.injEq, Prod.mk.injEq] at h
    obtain ⟨rfl, rfl, rfl⟩ := h
    omega
   rw [e1, cond_false] at h
   cases hd : s.drop i with
   | nil => rw [hd] at h; cases h
   | cons c l =>
     have hlt : i < s.length := by
      have := congrArg List.length hd
      simp only [List.length_drop, List.length_cons] at this
      omega
     rw [hd] at h
     dsimp only at h
     cases e2 : c == 38
     case true =>
      rw [e2, cond_true] at h
      cases he : entityF s i with
      | error e => rw [he] at h; cases h
      | ok p =>
        obtain ⟨x, j⟩ := p
        rw [he] at h
        have hp := entityF_prog he
        have hxl := entityF_len he
        have a1 := withinF_len hk f j _ _ _ _ _ h hp.2
        rw [List.length_append] at a1
        omega
     rw [e2, cond_false] at h
     cases e3 : List.isPrefixOf rawM (c :: l)
     case true =>
      rw [e3, cond_true] at h
      have hpl := prefix_le (t := rawM) (s := s) (i := i) (by rw [hd]; exact e3) (by simp [rawM])
      cases he : uptoF s rawEnd (i + 9) with
      | error e => rw [he] at h; cases h
      | ok p =>
        obtain ⟨x, j⟩ := p
        rw [he] at h
        have hp := uptoF_prog he hpl
        have hxl := uptoF_len he
        have a1 := withinF_len hk f j _ _ _ _ _ h hp.2
        try rw [List.length_append] at a1
        omega
     rw [e3, cond_false] at h
     cases e4 : List.isPrefixOf remM (c :: l)
     case true =>
      rw [e4, cond_true] at h
      have hpl := prefix_le (t := remM) (s := s) (i := i) (by rw [hd]; exact e4) (by simp [remM])
      cases he : uptoF s remEnd (i + 4) with
      | error e => rw [he] at h; cases h
      | ok p =>
        obtain ⟨x, j⟩ := p
        rw [he] at h
        have hp := uptoF_prog he hpl
        have hxl := uptoF_len he
        have a1 := withinF_len hk f j _ _ _ _ _ h hp.2
        try rw [List.length_append] at a1
        omega
     rw [e4, cond_false] at h
     cases e5 : c == 60
     case false =>
      rw [e5] at h
      have a1 := withinF_len hk f (i + 1) _ _ _ _ _ h (by omega)
      rw [List.length_append, List.length_singleton] at a1
      omega
     rw [e5, Bool.not_true, cond_false] at h
     obtain ⟨_, h⟩ := bif_ok h
     obtain ⟨_, h⟩ := bif_ok h
     obtain ⟨e6, h⟩ := bif_ok h
     rw [Bool.not_eq_false', decide_eq_true_eq] at e6
     cases he : kid i with
     | error e => rw [he] at h; cases h
     | ok p =>
       obtain ⟨x, j⟩ := p
       rw [he] at h
       have hp := hk i x j hi he
       have a1 := withinF_len hk f j _ _ _ _ _ h hp.2.1
       omega
theorem elemB_prog {s : List UInt8} {kid : Int → Nat → RES (El × Nat)} {more : Bool} {pg : Int} (hk : ∀ p i x j, i ≤ s.length → kid p i = .ok (x, j) → i < j ∧ j ≤ s.length ∧ fits x) {i : Nat} {x : El} {j : Nat} (hi : i ≤ s.length) (h : elemB s kid more pg i = .ok (x, j)) :
  i < j ∧ j ≤ s.length ∧ fits x := by
 unfold elemB at h
 obtain ⟨_, h⟩ := bif_ok h
 obtain ⟨e1, h⟩ := bif_ok h
 obtain ⟨_, h⟩ := bif_ok h
 rw [Bool.not_eq_false'] at e1
 have hpl := prefix_le e1 (by simp)
 simp only [List.length_cons, List.length_nil] at hpl
 have hsp := span_le isNameC s.length (s.drop (i + 1))
 rw [List.length_drop] at hsp
 cases ha : attrsF s (s.length + 1) (i + 1 + span isNameC s.length (s.drop (i + 1))) pg false false with
 | error e => rw [ha] at h; cases h
 | ok q =>
   obtain ⟨c, a, p, y⟩ := q
   rw [ha] at h
   have hp := attrsF_prog _ _ _ _ _ _ _ _ _ ha (by omega)
   cases c with
   | true =>
     simp only [Except.ok.injEq, Prod.mk.injEq] at h
     obtain ⟨rfl, rfl⟩ := h
     exact ⟨by omega, hp.2, by simp [fits, fitss]⟩
   | false =>
     dsimp only at h
     cases hw : withinF s (kid p) more (s.length + 1) a [] [] with
     | error e => rw [hw] at h; cases h
     | ok q =>
       obtain ⟨t, ks, m⟩ := q
       rw [hw] at h
       dsimp only at h
       have hwp := withinF_prog (hk p) _ _ _ _ _ _ _ hw hp.2 trivial (by simp)
       cases hc : closeF s (List.take (span isNameC s.length (List.drop (i + 1) s)) (List.drop (i + 1) s)) m with
       | error e => rw [hc] at h; cases h
       | ok q =>
         rw [hc] at h
         dsimp only at h
         have hcp := closeF_prog hc
         have fin : ∀ x', .ok (x', q) = (.ok (x, j) : RES (El × Nat)) → fits x' → i < j ∧ j ≤ s.length ∧ fits x := by
          intro x' h1 h2
          simp only [Except.ok.injEq, Prod.mk.injEq] at h1
          obtain ⟨rfl, rfl⟩ := h1
          exact ⟨by omega, hcp.2, h2⟩
         unfold endF at h
         cases c1 : decide (0 < ks.length)
         · rw [c1, cond_false] at h
           cases y
           · exact fin _ h (by simp [fits, fitss])
           · rw [cond_true] at h
             cases c2 : (decF t).2 == 0
             · rw [c2] at h; cases h
             · rw [c2] at h
               exact fin _ h (by simp [fits, fitss])
         · rw [c1, cond_true] at h
           cases c2 : (!y && trimF t == [])
           · rw [c2] at h; cases h
           · rw [c2] at h
             exact fin _ h ⟨by omega, hwp.2.2.1⟩
theorem elemF_prog {s : List UInt8} : ∀ (d : Nat) (pg : Int) (i : Nat) (x : El) (j : Nat), i ≤ s.length → elemF s d pg i = .ok (x, j) → i < j ∧ j ≤ s.length ∧ fits x
 | 0, pg, i, x, j, hi, h => elemB_prog (fun _ _ _ _ _ h => by cases h) hi h
 | d + 1, pg, i, x, j, hi, h => elemB_prog (fun p i x j => elemF_prog d p i x j) hi h
theorem trim_ok' (t : List UInt8) (hs : t.length ≤ 4611686018427387904) : PF prog G 117 [.str t, .str [32, 9, 10, 13]] (.str (trimF t)) :=
 trim_ok t [32, 9, 10, 13] (by decide) (by decide) (by decide) (by omega)
def eH (H : Hp) (b b6 be : Nat) (s : List UInt8) (ty : TypeId) (i : Nat) (cs : List DV) : Hp := ((H.upd b6 (some (.cells Z5 elT))).upd b (rd s i ty)).upd be (some (.cells cs elT))
section
variable {H : Hp} {b b6 be : Nat} {s : List UInt8} {ty : TypeId} {i : Nat} {cs : List DV}
theorem eH_b (h : b ≠ be) : eH H b b6 be s ty i cs b = rd s i ty := by rw [eH, Hp.upd_ne h]; exact Hp.upd_same
theorem eH_be : eH H b b6 be s ty i cs be = some (.cells cs elT) := Hp.upd_same
theorem eH_b6 (h1 : b6 ≠ b) (h2 : b6 ≠ be) : eH H b b6 be s ty i cs b6 = some (.cells Z5 elT) := by rw [eH, Hp.upd_ne h2, Hp.upd_ne h1]; exact Hp.upd_same
theorem eH_setb (h : b ≠ be) (j : Nat) : (eH H b b6 be s ty i cs).upd b (rd s j ty) = eH H b b6 be s ty j cs := by
 rw [eH, Hp.upd_comm (Ne.symm h), Hp.upd_upd]; rfl
theorem eH_setbe (cs' : List DV) : (eH H b b6 be s ty i cs).upd be (some (.cells cs' elT)) = eH H b b6 be s ty i cs' := Hp.upd_upd
theorem eH_sub (h1 : b6 ≠ b) (h2 : be ≠ b) (h3 : be ≠ b6) (h4 : H b6 = none) (h5 : H be = none) : SubH (H.upd b (rd s i ty)) (eH H b b6 be s ty i cs) := by
 rw [eH, Hp.upd_comm h1]
 exact (SubH.fresh (by rw [Hp.upd_ne h1]; exact h4)).trans (SubH.fresh (by rw [Hp.upd_ne h3, Hp.upd_ne h2]; exact h5))
end
theorem SubH.over {A B : Hp} {k : Nat} {o : Option DO} (h : SubH A B) (hk : A k = none) : SubH A (B.upd k o) := by
 intro q x e
 have : q ≠ k := fun e' => by rw [e', hk] at e; cases e
 rw [Hp.upd_ne this]; exact h q x e
theorem KD.les {p : Int} {n t : List UInt8} {o : Bool} {ks : List El} {K : DV} (h : KD ks K) : DLes [.int .i64 p, .str n, .str t, .bool o, K] (elC (.mk p n t o ks)) := by
 rw [elC]
 refine .cons (DLe.refl _) (.cons (DLe.refl _) (.cons (DLe.refl _) (.cons (DLe.refl _) (.cons ?_ .nil))))
 rcases h with ⟨rfl, rfl⟩ | rfl
 · exact DLe.nils
 · exact DLe.refl _
theorem KD.len {ks : List El} {K : DV} (h : KD ks K) : lenD false K = some (.int .i64 ks.length) := by
 rcases h with ⟨rfl, rfl⟩ | rfl <;> rfl
theorem elem_step (hG : GOK G) {s : List UInt8} {ty : TypeId} {b deep : Nat} {kid : Int → Nat → RES (El × Nat)} {more : Bool} (hs : s.length ≤ 100000) (hd : deep ≤ 12) (hm : more = decide (deep < 12))
  (hprog : ∀ p i x j, i ≤ s.length → kid p i = .ok (x, j) → i < j ∧ j ≤ s.length ∧ fits x)
  (hkid : deep < 12 → ∀ p i' HH, HH b = rd s i' ty → i' ≤ s.length → CALL prog G 53 [.ptr b 0, .int .i64 p, .int .i64 ((deep + 1 : Nat) : Int)] HH (Kr1 (kid p i') (fun v => .agg (elC v.1)) (·.2) s b ty HH) (Kp1 (kid p i') s b ty HH))
  (pg : Int) (i : Nat) (H : Hp) (hb : H b = rd s i ty) (hi : i ≤ s.length) :
  CALL prog G 53 [.ptr b 0, .int .i64 pg, .int .i64 deep] H (Kr1 (elemB s kid more pg i) (fun v => .agg (elC v.1)) (·.2) s b ty H) (Kp1 (elemB s kid more pg i) s b ty H) := by
 generalize hRR : elemB s kid more pg i = R
 have hR := hRR
 unfold elemB at hR
 refine CALL.of cF53 (Nat.le_of_ble_eq_true rfl) ?_
 refine AC.seq (AC.reg ?_)
 refine RG.alloc .d fun b6 hb6 => ?_
 have h6b : b6 ≠ b := fun e => by rw [e, hb] at hb6; cases hb6
 have hb1 : (H.upd b6 (some (.cells Z5 elT))) b = rd s i ty := by rw [Hp.upd_ne (Ne.symm h6b)]; exact hb
 have hH1 : H.upd b6 (some (.cells [.int .i64 0, .str [], .str [], .bool false, .nils] 24)) = H.upd b6 (some (.cells Z5 elT)) := rfl
 rw [hH1]
 have bad1 : ∀ {e : Int × Int} {j : Nat} {HH : Hp}, R = .error e → j ≤ s.length → SubH (H.upd b (rd s j ty)) HH → ∃ H', SubH H' HH ∧ Kp1 R s b ty H (fault e.1 e.2) H' := fun {e j _} h1 h2 h3 => ⟨_, h3, e, j, h1, rfl, h2, rfl⟩
 have sub6 : ∀ j, SubH (H.upd b (rd s j ty)) ((H.upd b6 (some (.cells Z5 elT))).upd b (rd s j ty)) := fun j => by
  rw [Hp.upd_comm h6b]
  exact SubH.fresh (by rw [Hp.upd_ne h6b]; exact hb6)
 refine RG.nilS (AC.scp (AC.seq (AC.drawV [1, 7] rfl ?_)))
 first|refine VD.z0 0 ?_|refine VD.z1 0 ?_|refine VD.z2 0 ?_|refine VD.z3 0 ?_|refine VD.z4 0 ?_|refine VD.z5 0 ?_
 first|refine VD.z0 3 ?_|refine VD.z1 3 ?_|refine VD.z2 3 ?_|refine VD.z3 3 ?_|refine VD.z4 3 ?_|refine VD.z5 3 ?_
 first|refine VD.z0 4 ?_|refine VD.z1 4 ?_|refine VD.z2 4 ?_|refine VD.z3 4 ?_|refine VD.z4 4 ?_|refine VD.z5 4 ?_
 first|refine VD.z0 5 ?_|refine VD.z1 5 ?_|refine VD.z2 5 ?_|refine VD.z3 5 ?_|refine VD.z4 5 ?_|refine VD.z5 5 ?_
 first|refine VD.z0 6 ?_|refine VD.z1 6 ?_|refine VD.z2 6 ?_|refine VD.z3 6 ?_|refine VD.z4 6 ?_|refine VD.z5 6 ?_
 refine VD.pe (K := fun d H' => d = .str (s.drop i) ∧ H' = H.upd b6 (some (.cells Z5 elT))) (Kp := fun _ _ => False) 1 rfl rfl (EF.call rfl (left_ok hb1 hi)) (fun _ _ _ h => h.elim) (fun d H' ⟨f1, f2⟩ => ?_)
 subst f1; subst f2
 refine ⟨stb, ?_⟩
 first|refine VD.z0 2 ?_|refine VD.z1 2 ?_|refine VD.z2 2 ?_|refine VD.z3 2 ?_|refine VD.z4 2 ?_|refine VD.z5 2 ?_
 refine VD.pe (K := fun d H' => (!(s.drop i == [])) = true ∧ d = .tup [] ∧ H' = H.upd b6 (some (.cells Z5 elT))) (Kp := fun d H' => (!(s.drop i == [])) = false ∧ d = fault i 1 ∧ H' = H.upd b6 (some (.cells Z5 elT))) 7 rfl rfl (EF.call rfl (need_ok _ i 1 _)) (fun d fr' H' ⟨f1, f2, f3⟩ => ?_) (fun d H' ⟨f1, f2, f3⟩ => ?_)
 · subst f2; subst f3
   have f4 : (s.drop i == []) = true := by simpa using f1
   rw [f4] at hR
   refine bad1 (e := (i, 1)) hR.symm hi ?_
   have := sub6 i
   rw [Hp.upd_id hb1] at this
   exact this
 subst f2; subst f3
 refine ⟨stb, ?_⟩
 have f4 : (s.drop i == []) = false := by simpa using f1
 rw [f4, cond_false] at hR
 refine VD.pd rfl ?_
 refine AC.to [(0, .ptr b 0), (1, .int .i64 pg), (2, .int .i64 deep), (6, .ptr b6 0)] ⟨rfl, rfl, rfl, rfl, trivial⟩ (AC.seq (AC.reg ?_))
 refine go ?_
 refine RG.nilS (AC.seq (AC.reg ?_))
 refine go1 ?_
 refine RG.callR .d rfl (has_ok (t := [60]) hb1 hi (by simp; omega)) ?_
 refine go1 ?_
 refine RG.call .d rfl (need_ok _ i 3 _) (fun d H' ⟨g1, g2, g3⟩ => ?_) (fun d H' ⟨g1, g2, g3⟩ => ?_)
 rotate_left
 · subst g2; subst g3
   rw [g1] at hR ⊢
   exact bad1 (e := (i, 3)) hR.symm hi (sub6 i)
 subst g2; subst g3
 rw [g1] at hR ⊢
 simp only [Bool.not_true, cond_false, cond_true, List.length_singleton] at hR ⊢
 have hpl := prefix_le g1 (by simp)
 simp only [List.length_singleton] at hpl
 have hsp := span_le isNameC s.length (s.drop (i + 1))
 rw [List.length_drop] at hsp
 generalize hk : span isNameC s.length (s.drop (i + 1)) = k at hR hsp
 generalize hn : (s.drop (i + 1)).take k = n at hR
 have hnl : n.length ≤ s.length := by rw [← hn, List.length_take, List.length_drop]; omega
 refine RG.nilS (AC.seq (AC.reg ?_))
 have hb2 : ((H.upd b6 (some (.cells Z5 elT))).upd b (rd s (i + 1) ty)) b = rd s (i + 1) ty := Hp.upd_same
 refine go ?_
 refine RG.nilS (AC.seq (AC.reg ?_))
 refine go1 ?_
 refine go1 ?_
 refine RG.callR .d rfl (name_ok hb2 hpl (by omega)) ?_
 rw [hk, hn, Hp.upd_upd]
 refine RG.p (d := .agg [.int .i64 pg, .str n, .str [], .bool false, .nils]) .d rfl ?_
 refine RG.alloc .d fun be hbe => ?_
 have heb : be ≠ b := fun e => by rw [e, Hp.upd_same] at hbe; cases hbe
 rw [Hp.upd_ne heb] at hbe
 have he6 : be ≠ b6 := fun e => by rw [e, Hp.upd_same] at hbe; cases hbe
 rw [Hp.upd_ne he6] at hbe
 have hE0 : ((H.upd b6 (some (.cells Z5 elT))).upd b (rd s (i + 1 + k) ty)).upd be (some (.cells [.int .i64 0, .str [], .str [], .bool false, .nils] 24)) = eH H b b6 be s ty (i + 1 + k) Z5 := rfl
 rw [hE0]
 have hbe' : b ≠ be := Ne.symm heb
 refine RG.sto (cs := Z5) (ty := elT) (ys := [.int .i64 pg, .str n, .str [], .bool false, .nils]) .d wh eH_be wh rfl rfl (by exact Nat.le_refl _) ?_
 rw [eH_setbe]
 have hsp5 : spliceL 0 [.int .i64 pg, .str n, .str [], .bool false, .nils] Z5 = [.int .i64 pg, .str n, .str [], .bool false, .nils] := rfl
 rw [hsp5]
 have bad : ∀ {e : Int × Int} {j : Nat} {cs : List DV}, R = .error e → j ≤ s.length → ∃ H', SubH H' (eH H b b6 be s ty j cs) ∧ Kp1 R s b ty H (fault e.1 e.2) H' := fun h1 h2 => bad1 h1 h2 (eH_sub h6b heb he6 hb6 hbe)
 refine RG.nilS ?_
 refine AC.to [(0, .ptr b 0), (2, .int .i64 deep), (6, .ptr b6 0), (8, .int .i64 ((i + 1 : Nat) : Int)), (9, .ptr be 0)] ⟨rfl, rfl, rfl, rfl, rfl, trivial⟩ (AC.seq ?_)
 refine AC.mono (Q := fun e fr2 H2 => match e with
   | .normal => H2 = eH H b b6 be s ty (i + 1 + k) [.int .i64 pg, .str n, .str [], .bool false, .nils] ∧ nameOk n = true ∧ Agrees fr2 [(0, .ptr b 0), (2, .int .i64 deep), (6, .ptr b6 0), (9, .ptr be 0)]
   | .panic d => d = fault ((i + 1 : Nat) : Int) 14 ∧ H2 = eH H b b6 be s ty (i + 1 + k) [.int .i64 pg, .str n, .str [], .bool false, .nils] ∧ nameOk n = false
   | _ => False) (AC.reg ?_) ?_
 · refine go1 ?_
   refine RG.ld .d wh eH_be (d := .str n) rfl ?_
   cases n with
   | nil =>
     refine go ?_
     exact RG.call .d rfl (need_ok false _ 14 _) (fun d H5 ⟨k1, _⟩ => by cases k1) (fun d H5 ⟨_, k2, k3⟩ => ⟨k2, k3, rfl⟩)
   | cons c l =>
     refine RG.p (d := .bool true) .d rfl ?_
     refine go1 ?_
     refine go1 ?_
     refine RG.ld .d wh eH_be (d := .str (c :: l)) rfl ?_
     refine RG.at (b := c) .d wh wh (by omega) rfl ?_
     refine RG.callP .d rfl (letter_ok c) ?_
     refine go ?_
     cases e1 : isLetter c
     · refine go ?_
       exact RG.call .d rfl (need_ok false _ 14 _) (fun d H5 ⟨k1, _⟩ => by cases k1) (fun d H5 ⟨_, k2, k3⟩ => ⟨k2, k3, by rw [nameOk, e1]; rfl⟩)
     · refine go1 ?_
       refine RG.ld .d wh eH_be (d := .str (c :: l)) rfl ?_
       refine go ?_
       exact RG.call .d rfl (need_ok (decide ((((c :: l).length : Nat) : Int) ≤ 32)) _ 14 _) (fun d H5 ⟨k1, k2, k3⟩ => RG.nil ⟨k3, by rw [nameOk, e1, k1]; rfl, rfl, rfl, rfl, rfl, trivial⟩) (fun d H5 ⟨k1, k2, k3⟩ => ⟨k2, k3, by rw [nameOk, e1, k1]; rfl⟩)
 rintro e fr2 H2 hq
 cases e with
 | exit id => exact hq.elim
 | ret => exact hq.elim
 | panic d =>
   obtain ⟨k1, k2, k3⟩ := hq
   subst k1; subst k2
   rw [k3] at hR
   exact bad (e := (((i + 1 : Nat) : Int), 14)) hR.symm (by first | omega | (simp; omega))
 | normal =>
 obtain ⟨k1, k2, k3⟩ := hq
 subst k1
 rw [k2, Bool.not_true, cond_false] at hR
 refine AC.to _ k3 (AC.seq (AC.reg ?_))
 refine go ?_
 refine RG.nilS (AC.seq (AC.skip (AC.seq ?_)))
 have hEb : ∀ j cs, eH H b b6 be s ty j cs b = rd s j ty := fun j cs => eH_b hbe'
 have done : ∀ {j : Nat} {cs : List DV} {x : El} {fr : Fr}, fr 6 = .ptr b6 0 → cs.length = 5 → DLes cs (elC x) → R = .ok (x, j) → Fin F53.rs (Kr1 R (fun v => .agg (elC v.1)) (·.2) s b ty H) (Kp1 R s b ty H) .ret fr ((eH H b b6 be s ty j cs).upd b6 (some (.cells cs elT))) := by
  intro j cs x fr h6 hl hle hx
  refine finL (ds := [.agg cs]) (d := .agg (elC x)) (H' := H.upd b (rd s j ty)) ?_ hle.agg (SubH.over (eH_sub h6b heb he6 hb6 hbe) (by rw [Hp.upd_ne h6b]; exact hb6)) ⟨(x, j), hx, rfl, rfl⟩
  have hld : ldD ((eH H b b6 be s ty j cs).upd b6 (some (.cells cs elT))) true 5 (.ptr b6 0) = some (.agg cs) := by
   unfold ldD
   dsimp only
   rw [Hp.upd_same]
   dsimp only
   unfold partD
   rw [if_pos rfl, if_pos (by omega), List.drop_zero, List.take_of_length_le (by omega)]
  show (ldD ((eH H b b6 be s ty j cs).upd b6 (some (.cells cs elT))) true 5 (fr 6)).bind _ = _
  rw [h6, hld]; rfl
 generalize hRA : attrsF s (s.length + 1) (i + 1 + k) pg false false = RA at hR
 have hRAp : ∀ c j p y, RA = .ok (c, j, p, y) → j ≤ s.length := fun c j p y h => (attrsF_prog _ _ _ _ _ _ _ _ _ (hRA.trans h) (by omega)).2
 refine AC.bloopH (α := Nat × Nat × Int × Bool × Bool) (β := Nat × Int × Bool) (fun a => a.1) (fun a => [(0, .ptr b 0), (2, .int .i64 deep), (6, .ptr b6 0), (9, .ptr be 0), (10, .bool a.2.2.2.1), (11, .bool a.2.2.2.2)])
  (fun a H' => H' = eH H b b6 be s ty a.2.1 [.int .i64 a.2.2.1, .str n, .str [], .bool false, .nils] ∧ attrsF s a.1 a.2.1 a.2.2.1 a.2.2.2.1 a.2.2.2.2 = RA ∧ a.2.1 ≤ s.length ∧ s.length < a.2.1 + a.1)
  (fun a => [(0, .ptr b 0), (2, .int .i64 deep), (6, .ptr b6 0), (9, .ptr be 0), (11, .bool a.2.2)]) (fun a H' => H' = eH H b b6 be s ty a.1 [.int .i64 a.2.1, .str n, .str [], .bool false, .nils] ∧ RA = .ok (false, a.1, a.2.1, a.2.2))
  ?_ ?_ (s.length + 1, i + 1 + k, pg, false, false) _ ⟨rfl, hRA, by dsimp only; omega, by dsimp only; omega⟩ ⟨rfl, rfl, rfl, rfl, rfl, rfl, trivial⟩
 · rintro ⟨j, p, y⟩ He fr ⟨h1, h2⟩ hfr
   dsimp only at h1 h2 hfr
   subst h1
   have hj := hRAp _ _ _ _ h2
   rw [h2] at hR
   dsimp only at hR
   refine AC.to _ hfr (AC.seq (AC.reg ?_))
   refine go ?_
   generalize hRW : withinF s (kid p) more (s.length + 1) j [] [] = RW at hR
   have hwc := within_call hG (deep := deep) (kid := kid p) (more := more) (hEb j [.int .i64 p, .str n, .str [], .bool false, .nils]) eH_be hbe' hj (by omega) hd hm (hprog p) (fun h => hkid h p)
   rw [hRW] at hwc
   refine RG.call .d rfl hwc (fun d H2 ⟨t, ks, m, K, w1, w2, w3, w4⟩ => ?_) (fun d H2 ⟨e, m, w1, w2, w3, w4⟩ => ?_)
   rotate_left
   · subst w2; subst w4
     rw [w1] at hR
     refine bad1 hR.symm w3 ?_
     have hx : (eH H b b6 be s ty j [.int .i64 p, .str n, .str [], .bool false, .nils]).upd be none = (H.upd b6 (some (.cells Z5 elT))).upd b (rd s j ty) := by
      rw [eH, Hp.upd_upd]
      exact Hp.upd_id (by rw [Hp.upd_ne heb, Hp.upd_ne he6]; exact hbe)
     rw [hx, Hp.upd_upd]
     exact sub6 m
   subst w2
   have hx : (((eH H b b6 be s ty j [.int .i64 p, .str n, .str [], .bool false, .nils]).upd be none).upd b (rd s m ty)).upd be (some (.cells [.int .i64 p, .str n, .str [], .bool false, K] elT)) = eH H b b6 be s ty m [.int .i64 p, .str n, .str [], .bool false, K] := by
    rw [eH, Hp.upd_upd, Hp.upd_comm heb, Hp.upd_upd, Hp.upd_upd]; rfl
   rw [hx] at w4
   subst w4
   rw [w1] at hR
   dsimp only at hR
   have hwp := withinF_prog (hprog p) _ _ _ _ _ _ _ (hRW.trans w1) hj trivial (by simp)
   refine go ?_
   refine RG.nilS (AC.seq (AC.reg ?_))
   refine go1 ?_
   refine go1 ?_
   refine go1 ?_
   refine RG.ld .d wh (hEb _ _) (d := .int .i64 m) rfl ?_
   refine RG.p (d := .int .i64 ((m - 2 : Nat) : Int)) .d (by
    show some (DV.int .i64 (IntKind.i64.wrap ((m : Int) - 2))) = _
    rw [IntWalk.i64_in _ (by omega)]; congr 2; omega) ?_
   refine go ?_
   refine RG.nilS (AC.seq (AC.reg ?_))
   refine go1 ?_
   refine go1 ?_
   refine RG.ld .d wh eH_be (d := .str n) rfl ?_
   refine RG.call .d rfl (close_ok (hEb _ _) hwp.2.1 (by omega)) (fun d H2 ⟨q, c1, c2, c3⟩ => ?_) (fun d H2 ⟨e, q, c1, c2, c3, c4⟩ => ?_)
   rotate_left
   · subst c2; subst c4
     rw [c1] at hR
     rw [eH_setb hbe']
     exact bad hR.symm c3
   subst c2
   rw [eH_setb hbe'] at c3
   subst c3
   rw [c1] at hR
   dsimp only [id] at hR ⊢
   have hcp := closeF_prog c1
   have tailp : ∀ {t2 : List UInt8} {o2 : Bool} {fr : Fr}, fr 6 = .ptr b6 0 → fr 9 = .ptr be 0 → R = .ok (.mk p n t2 o2 ks, q) →
     AC prog G none F53.N (.seq (.reg [ji 151 (.ld true 5 (.t 9)), jn (.st 5 (.t 6) (.t 151))]) .ret) (Fin F53.rs (Kr1 R (fun v => .agg (elC v.1)) (·.2) s b ty H) (Kp1 R s b ty H)) fr (eH H b b6 be s ty q [.int .i64 p, .str n, .str t2, .bool o2, K]) := by
    intro t2 o2 fr f6 f9 hx
    refine AC.to [(6, .ptr b6 0), (9, .ptr be 0)] ⟨f6, f9, trivial⟩ (AC.seq (AC.reg ?_))
    refine RG.ld .d wh eH_be (d := .agg [.int .i64 p, .str n, .str t2, .bool o2, K]) rfl ?_
    refine RG.sto (cs := Z5) (ty := elT) (ys := [.int .i64 p, .str n, .str t2, .bool o2, K]) .d wh (eH_b6 h6b (Ne.symm he6)) wh rfl rfl (by exact Nat.le_refl _) ?_
    have hsp6 : spliceL 0 [.int .i64 p, .str n, .str t2, .bool o2, K] Z5 = [.int .i64 p, .str n, .str t2, .bool o2, K] := rfl
    rw [hsp6]
    exact RG.nilS (AC.ret (done rfl rfl w3.les hx))
   refine RG.nilS (AC.seq (AC.block (AC.seq (AC.reg ?_))))
   refine go1 ?_
   refine RG.ld .d wh eH_be (d := K) rfl ?_
   refine RG.p (d := .int .i64 ks.length) .d w3.len ?_
   refine RG.p (d := .bool (decide (0 < ks.length))) .d (by
    show some (DV.bool (decide ((ks.length : Int) > 0))) = _
    congr 2
    rw [decide_eq_decide]; omega) ?_
   refine go1 ?_
   unfold endF at hR
   have htl : t.length ≤ 4611686018427387904 ∧ t.length ≤ 10000000000000 := by
    have := withinF_len (hprog p) _ _ _ _ _ _ _ (hRW.trans w1) hj
    rw [List.length_nil] at this
    omega
   cases k1 : decide (0 < ks.length)
   case true =>
    rw [k1, cond_true] at hR
    refine RG.nilS (AC.cond_t rfl ?_)
    refine AC.mono (Q := fun e fr2 H2 => match e with
     | .normal => H2 = eH H b b6 be s ty q [.int .i64 p, .str n, .str [], .bool false, K] ∧ (!y && trimF t == []) = true ∧ fr2 6 = .ptr b6 0 ∧ fr2 9 = .ptr be 0
     | .panic d => d = fault ((m - 2 : Nat) : Int) 7 ∧ H2 = eH H b b6 be s ty q [.int .i64 p, .str n, .str [], .bool false, K] ∧ (!y && trimF t == []) = false
     | _ => False) (AC.reg ?_) ?_
    · refine go ?_
      cases y
      · refine go ?_
        refine RG.callP .d rfl (trim_ok' t htl.1) ?_
        refine go ?_
        exact RG.call .d rfl (need_ok (trimF t == []) _ 7 _) (fun d H5 ⟨a1, a2, a3⟩ => RG.nil ⟨a3, by rw [a1]; rfl, rfl, rfl⟩) (fun d H5 ⟨a1, a2, a3⟩ => ⟨a2, a3, by rw [a1]; rfl⟩)
      · refine go ?_
        exact RG.call .d rfl (need_ok false _ 7 _) (fun d H5 ⟨a1, _⟩ => by cases a1) (fun d H5 ⟨_, a2, a3⟩ => ⟨a2, a3, rfl⟩)
    rintro e fr2 H2 hq
    cases e with
    | exit id => exact hq.elim
    | ret => exact hq.elim
    | panic d =>
      obtain ⟨a1, a2, a3⟩ := hq
      subst a1; subst a2
      rw [a3] at hR
      exact bad (e := (((m - 2 : Nat) : Int), 7)) hR.symm hcp.2
    | normal =>
      obtain ⟨a1, a2, a3, a4⟩ := hq
      subst a1
      rw [a2] at hR
      exact tailp a3 a4 hR.symm
   rw [k1, cond_false] at hR
   have hks : ks = [] := by
    have := of_decide_eq_false k1
    exact List.eq_nil_of_length_eq_zero (by omega)
   subst hks
   refine RG.nilS (AC.cond_f rfl (AC.seq (AC.reg ?_)))
   refine go ?_
   cases y
   · rw [cond_false] at hR
     refine RG.nilS (AC.cond_f rfl (AC.reg ?_))
     refine go1 ?_
     refine go1 ?_
     refine RG.sto (cs := [.int .i64 p, .str n, .str [], .bool false, K]) (ty := elT) (ys := [.str t]) .d wh eH_be wh rfl rfl (by exact Nat.le_of_ble_eq_true rfl) ?_
     rw [eH_setbe]
     exact RG.nil (tailp rfl rfl hR.symm)
   · rw [cond_true] at hR
     refine RG.nilS (AC.cond_t rfl (AC.seq (AC.reg ?_)))
     refine go1 ?_
     refine RG.callP .d rfl (Decode_ok t htl.2) ?_
     refine go ?_
     refine RG.nilS (AC.seq (AC.reg ?_))
     refine go1 ?_
     refine RG.p (d := .bool ((decF t).2 == 0)) .d rfl ?_
     refine go1 ?_
     refine go1 ?_
     refine RG.call .d rfl (need_ok ((decF t).2 == 0) _ (decF t).2 _) (fun d H5 ⟨a1, a2, a3⟩ => ?_) (fun d H5 ⟨a1, a2, a3⟩ => ?_)
     rotate_left
     · subst a2; subst a3
       rw [a1] at hR
       exact bad (e := (((m - 2 : Nat) : Int), (decF t).2)) hR.symm hcp.2
     subst a2; subst a3
     rw [a1] at hR
     refine RG.nilS (AC.reg ?_)
     refine go1 ?_
     refine go1 ?_
     refine RG.p (d := .bool (!((decF t).1 == []))) .d rfl ?_
     refine go1 ?_
     refine RG.sto (cs := [.int .i64 p, .str n, .str [], .bool false, K]) (ty := elT) (ys := [.str (decF t).1]) .d wh eH_be wh rfl rfl (by exact Nat.le_of_ble_eq_true rfl) ?_
     rw [eH_setbe]
     refine go1 ?_
     refine RG.sto (cs := [.int .i64 p, .str n, .str (decF t).1, .bool false, K]) (ty := elT) (ys := [.bool (!((decF t).1 == []))]) .d wh eH_be wh rfl rfl (by exact Nat.le_of_ble_eq_true rfl) ?_
     rw [eH_setbe]
     exact RG.nil (tailp rfl rfl hR.symm)
 · rintro ⟨f, j, p, nm, y⟩ H' ⟨h1, hA, hj, hf⟩ ih ex
   dsimp only at h1 hA hj hf ih
   subst h1
   obtain ⟨f, rfl⟩ : ∃ f', f = f' + 1 := ⟨f - 1, by omega⟩
   rw [attrsF] at hA
   try dsimp only at hA
   have hw := wsN_le (s.drop j)
   rw [List.length_drop] at hw
   have again : ∀ {j2 : Nat} {p2 : Int} {nm2 y2 : Bool}, attrsF s f j2 p2 nm2 y2 = RA → j < j2 → j2 ≤ s.length → ∀ fr, Agrees fr [(0, .ptr b 0), (2, .int .i64 deep), (6, .ptr b6 0), (9, .ptr be 0), (10, .bool nm2), (11, .bool y2)] → _ :=
    fun {j2 p2 nm2 y2} h1 h2 h3 fr hfr => ih (f, j2, p2, nm2, y2) _ ⟨rfl, h1, h3, by dsimp only; omega⟩ (by dsimp only; omega) fr hfr
   refine AC.block (AC.seq (AC.reg ?_))
   refine go1 ?_
   refine RG.callR .d rfl (space_ok (hEb _ _) hj (by omega)) ?_
   rw [eH_setb hbe']
   generalize hwj : wsN (s.drop j) = w at hA hw
   refine go ?_
   refine RG.nilS (AC.seq (AC.reg ?_))
   refine go1 ?_
   refine go1 ?_
   refine go1 ?_
   refine RG.ld .d wh (hEb _ _) (d := .int .i64 ((j + w : Nat) : Int)) rfl ?_
   refine go ?_
   refine RG.nilS ?_
   refine AC.to [(0, .ptr b 0), (2, .int .i64 deep), (6, .ptr b6 0), (8, .int .i64 ((j + w : Nat) : Int)), (9, .ptr be 0), (10, .bool nm), (11, .bool y), (12, .bool (decide (0 < w)))] ⟨rfl, rfl, rfl, rfl, rfl, rfl, rfl, rfl, trivial⟩ ?_
   refine AC.block (AC.seq (AC.reg ?_))
   refine go1 ?_
   refine RG.callR .d rfl (has_ok (t := [47, 62]) (hEb _ _) (by omega) (by simp; omega)) ?_
   rw [eH_setb hbe']
   cases e1 : List.isPrefixOf [47, 62] (s.drop (j + w))
   case true =>
    rw [e1, cond_true] at hA
    rw [← hA] at hR
    dsimp only at hR
    refine go ?_
    refine RG.nilS (AC.cond_t rfl (AC.seq (AC.reg ?_)))
    refine RG.ld .d wh eH_be (d := .agg [.int .i64 p, .str n, .str [], .bool false, .nils]) rfl ?_
    refine RG.sto (cs := Z5) (ty := elT) (ys := [.int .i64 p, .str n, .str [], .bool false, .nils]) .d wh (eH_b6 h6b (Ne.symm he6)) wh rfl rfl (by exact Nat.le_refl _) ?_
    have hsp6 : spliceL 0 [.int .i64 p, .str n, .str [], .bool false, .nils] Z5 = [.int .i64 p, .str n, .str [], .bool false, .nils] := rfl
    rw [hsp6]
    exact RG.nilS (AC.ret (done (x := .mk p n [] false []) rfl rfl (KD.les (.inl ⟨rfl, rfl⟩)) hR.symm))
   rw [e1, cond_false] at hA
   refine go ?_
   refine RG.nilS (AC.cond_f rfl (AC.seq (AC.reg ?_)))
   refine go1 ?_
   refine RG.callR .d rfl (has_ok (t := [62]) (hEb _ _) (by simp; omega) (by simp; omega)) ?_
   rw [eH_setb hbe', cond_false]
   cases e2 : List.isPrefixOf [62] (s.drop (j + w))
   case true =>
    rw [e2, cond_true] at hA
    refine go ?_
    refine RG.nilS (AC.cond_t rfl (AC.exit ?_))
    exact ex (j + w + 1, p, y) _ _ ⟨rfl, hA.symm⟩ ⟨rfl, rfl, rfl, rfl, rfl, trivial⟩
   rw [e2, cond_false] at hA
   refine go ?_
   refine RG.nilS (AC.cond_f rfl (AC.seq (AC.reg ?_)))
   refine go ?_
   cases e3 : decide (0 < w)
   case false =>
    rw [e3] at hA
    rw [← hA] at hR
    simp only [Bool.not_false, cond_true] at hR
    refine RG.nilS (AC.cond_t rfl (AC.reg ?_))
    refine go1 ?_
    refine RG.call .d rfl (need_ok false _ 3 _) (fun d H5 ⟨a1, _⟩ => by cases a1) (fun d H5 ⟨_, a2, a3⟩ => ?_)
    subst a2; subst a3
    exact bad (e := (((j + w : Nat) : Int), 3)) hR.symm (by first | omega | (simp; omega))
   rw [e3, Bool.not_true, cond_false] at hA
   refine RG.nilS (AC.cond_f rfl (AC.seq (AC.reg ?_)))
   refine go1 ?_
   refine RG.callR .d rfl (has_ok (t := spaceMark) (hEb _ _) (by simp; omega) (by simp [spaceMark]; omega)) ?_
   rw [eH_setb hbe', cond_false]
   cases e4 : List.isPrefixOf spaceMark (s.drop (j + w))
   case true =>
    rw [e4, cond_true] at hA
    have hpl := prefix_le e4 (by simp [spaceMark])
    have h7 : spaceMark.length = 7 := rfl
    rw [h7] at hpl
    rw [cond_true, h7]
    refine go ?_
    refine RG.nilS (AC.cond_t rfl (AC.seq (AC.reg ?_)))
    refine go ?_
    refine RG.call .d rfl (need_ok (!nm) _ 11 _) (fun d H5 ⟨a1, a2, a3⟩ => ?_) (fun d H5 ⟨a1, a2, a3⟩ => ?_)
    rotate_left
    · subst a2; subst a3
      have a1' : nm = true := by simpa using a1
      rw [a1'] at hA
      rw [← hA] at hR
      exact bad (e := (((j + w : Nat) : Int), 11)) hR.symm (by first | omega | (simp; omega))
    subst a2; subst a3
    have a1' : nm = false := by simpa using a1
    rw [a1', cond_false] at hA
    refine RG.nilS (AC.seq (AC.reg ?_))
    refine go ?_
    refine RG.nilS (AC.seq (AC.reg ?_))
    refine go1 ?_
    refine RG.call .d rfl (upto_ok' hG (t := [34]) (hEb _ _) hpl (by simp; omega)) (fun d H3 ⟨⟨v, k2⟩, u1, u2, u3⟩ => ?_) (fun d H3 ⟨e, k2, u1, u2, u3, u4⟩ => ?_)
    rotate_left
    · subst u2; subst u4
      rw [u1] at hA
      rw [← hA] at hR
      rw [eH_setb hbe']
      exact bad hR.symm u3
    subst u2
    rw [eH_setb hbe'] at u3
    subst u3
    rw [u1] at hA
    dsimp only at hA
    have hup := uptoF_prog u1 hpl
    refine RG.callP .d rfl (Page_ok v) ?_
    refine go1 ?_
    refine RG.sto (cs := [.int .i64 p, .str n, .str [], .bool false, .nils]) (ty := elT) (ys := [.int .i64 (pageOf v)]) .d wh eH_be wh rfl rfl (by exact Nat.le_of_ble_eq_true rfl) ?_
    rw [eH_setbe]
    refine RG.nilS (AC.reg ?_)
    refine go1 ?_
    refine RG.ld .d wh eH_be (d := .int .i64 (pageOf v)) rfl ?_
    refine go ?_
    refine RG.call .d rfl (need_ok (decide (pageOf v ≥ 0)) _ 5 _) (fun d H5 ⟨a1, a2, a3⟩ => ?_) (fun d H5 ⟨a1, a2, a3⟩ => ?_)
    rotate_left
    · subst a2; subst a3
      rw [a1] at hA
      rw [← hA] at hR
      exact bad (e := (((j + w : Nat) : Int), 5)) hR.symm hup.2
    subst a2; subst a3
    rw [a1, cond_true] at hA
    exact RG.nil (again hA (by omega) hup.2 _ ⟨rfl, rfl, rfl, rfl, rfl, rfl, trivial⟩)
   rw [e4, cond_false] at hA
   rw [cond_false]
   refine go ?_
   refine RG.nilS (AC.cond_f rfl (AC.seq (AC.reg ?_)))
   refine go1 ?_
   refine RG.callR .d rfl (has_ok (t := codeMark) (hEb _ _) (by omega) (by simp [codeMark]; omega)) ?_
   rw [eH_setb hbe']
   cases e5 : List.isPrefixOf codeMark (s.drop (j + w))
   case true =>
    rw [e5, cond_true] at hA
    have hpl := prefix_le e5 (by simp [codeMark])
    have h7 : codeMark.length = 5 := rfl
    rw [h7] at hpl
    rw [cond_true, h7]
    refine go ?_
    refine RG.nilS (AC.cond_t rfl (AC.seq (AC.reg ?_)))
    refine go ?_
    refine RG.call .d rfl (need_ok (!y) _ 11 _) (fun d H5 ⟨a1, a2, a3⟩ => ?_) (fun d H5 ⟨a1, a2, a3⟩ => ?_)
    rotate_left
    · subst a2; subst a3
      have a1' : y = true := by simpa using a1
      rw [a1'] at hA
      rw [← hA] at hR
      exact bad (e := (((j + w : Nat) : Int), 11)) hR.symm (by first | omega | (simp; omega))
    subst a2; subst a3
    have a1' : y = false := by simpa using a1
    rw [a1', cond_false] at hA
    refine RG.nilS (AC.seq (AC.reg ?_))
    refine go ?_
    refine RG.nilS (AC.reg ?_)
    refine go1 ?_
    refine RG.call .d rfl (upto_ok' hG (t := [34]) (hEb _ _) hpl (by simp; omega)) (fun d H3 ⟨⟨v, k2⟩, u1, u2, u3⟩ => ?_) (fun d H3 ⟨e, k2, u1, u2, u3, u4⟩ => ?_)
    rotate_left
    · subst u2; subst u4
      rw [u1] at hA
      rw [← hA] at hR
      rw [eH_setb hbe']
      exact bad hR.symm u3
    subst u2
    rw [eH_setb hbe'] at u3
    subst u3
    rw [u1] at hA
    dsimp only at hA
    have hup := uptoF_prog u1 hpl
    refine RG.p (d := .bool (v == b64)) .d rfl ?_
    refine go1 ?_
    refine RG.call .d rfl (need_ok (v == b64) _ 5 _) (fun d H5 ⟨a1, a2, a3⟩ => ?_) (fun d H5 ⟨a1, a2, a3⟩ => ?_)
    rotate_left
    · subst a2; subst a3
      rw [a1] at hA
      rw [← hA] at hR
      exact bad (e := (((j + w : Nat) : Int), 5)) hR.symm hup.2
    subst a2; subst a3
    rw [a1, cond_true] at hA
    exact RG.nil (again hA (by omega) hup.2 _ ⟨rfl, rfl, rfl, rfl, rfl, rfl, trivial⟩)
   rw [e5, cond_false] at hA
   rw [cond_false]
   rw [← hA] at hR
   refine go ?_
   refine RG.nilS (AC.cond_f rfl (AC.reg ?_))
   refine go1 ?_
   refine RG.call .d rfl (need_ok false _ 3 _) (fun d H5 ⟨a1, _⟩ => by cases a1) (fun d H5 ⟨_, a2, a3⟩ => ?_)
   subst a2; subst a3
   exact bad (e := (((j + w : Nat) : Int), 3)) hR.symm (by first | omega | (simp; omega))
theorem elem_ok (hG : GOK G) {s : List UInt8} {ty : TypeId} {b : Nat} (hs : s.length ≤ 100000) : ∀ (d deep : Nat), deep + d = 12 → ∀ (pg : Int) (i : Nat) (H : Hp), H b = rd s i ty → i ≤ s.length →
  CALL prog G 53 [.ptr b 0, .int .i64 pg, .int .i64 deep] H (Kr1 (elemF s d pg i) (fun v => .agg (elC v.1)) (·.2) s b ty H) (Kp1 (elemF s d pg i) s b ty H)
 | 0, deep, hd, pg, i, H, hb, hi => elem_step hG hs (by omega) (by simp; omega) (fun p i x j _ h => by cases h) (fun h => by omega) pg i H hb hi
 | d + 1, deep, hd, pg, i, H, hb, hi => elem_step hG hs (by omega) (by simp; omega) (fun p i x j => elemF_prog d p i x j) (fun _ p i' HH h1 h2 => elem_ok hG hs d (deep + 1) (by omega) p i' HH h1 h2) pg i H hb hi
open Go Go.Run
def nPref : List UInt8 := [80, 114, 101, 102]
def isSp (c : UInt8) : Bool := c == 32 || (9 ≤ c && c ≤ 13)
def wordsGo : List UInt8 → List UInt8 → List (List UInt8)
 | [], w => bif w == [] then [] else [w]
 | c :: l, w => bif isSp c then (bif w == [] then wordsGo l [] else w :: wordsGo l []) else wordsGo l (w ++ [c])
def wordsF (s : List UInt8) : List (List UInt8) := wordsGo s []
def hit (n : List UInt8) (k : El) : Bool := k.name == n || k.name == n ++ nPref
def idxA {α : Type} (p : α → Bool) : List α → Nat → Int
 | [], _ => -1
 | c :: l, n => bif p c then (n : Int) else idxA p l (n + 1)
def F162 : FN := ⟨28, (.seq (.reg [ji 4 (.mv (.t 0)), ji 5 (.len false (.t 4)), ji 6 (.bin .sub (.t 5) (ci 1)), ji 2 (.mv (ci 0)), ji 3 (.mv (.t 6))])
 (.block 0 (.loop (.seq (.seq (.reg [ji 7 (.mv (.t 2)), ji 8 (.mv (.t 3)), ji 9 (.bin .lss (.t 7) (.t 8))])
 (.cond (.t 9) .skip
 (.exit 0)))
 (.seq (.block 1 (.draw [ji 14 (.mv (.t 0)), ji 15 (.mv (.t 2)), ji 16 (.mv (.t 0)), ji 17 (.mv (.t 3)), ji 18 (.mv (.t 0)), ji 19 (.mv (.t 3)), ji 20 (.iadr 1 (.t 18) (.t 19)), ji 21 (.ld false 1 (.t 20)), ji 22 (.mv (.t 0)), ji 23 (.mv (.t 2)), ji 24 (.iadr 1 (.t 22) (.t 23)), ji 25 (.ld false 1 (.t 24)), ji 26 (.iadr 1 (.t 14) (.t 15)), jn (.st 1 (.t 26) (.t 21)), ji 27 (.iadr 1 (.t 16) (.t 17)), jn (.st 1 (.t 27) (.t 25))] [[], [], [], [], [], [], [4, 5], [6], [], [], [8, 9], [10], [0, 1, 0, 1, 4, 5, 6, 7, 11], [12, 7, 0, 1, 4, 5, 6, 7, 11], [2, 3, 0, 1, 2, 3, 4, 5, 6, 7, 8, 9, 10, 11, 12, 13], [14, 11, 13, 0, 1, 2, 3, 4, 5, 6, 7, 8, 9, 10, 11, 12, 13]]))
 (.reg [ji 10 (.mv (.t 2)), ji 11 (.bin .add (.t 10) (ci 1)), ji 12 (.mv (.t 3)), ji 13 (.bin .sub (.t 12) (ci 1)), ji 2 (.mv (.t 11)), ji 3 (.mv (.t 13))])))))), []⟩
theorem cF162 : cFn prog 162 = some F162 := by kernel_rfl
theorem splice_one {cs : List DV} {i : Nat} {d : DV} (h : i < cs.length) : spliceL i [d] cs = cs.set i d := by
 rw [spliceL, List.set_eq_take_append_cons_drop, if_pos h]
 simp
theorem evP_iadrW {fr : Fr} {H : Hp} {x y : X} {b off n cap sz : Nat} {k : IntKind} {i : Int} (hx : XV G fr x = .win b off n cap) (hy : XV G fr y = .int k i) (hr : 0 ≤ i ∧ i < n) : evP G fr H (.iadr sz x y) = some (.ptr b (off + i.toNat * sz)) := by
 show iadrD sz (XV G fr x) (XV G fr y) = _
 rw [hx, hy]
 simp only [iadrD, if_pos hr]
def revAt (l : List UInt8) (i k : Nat) : UInt8 := if k < i ∨ l.length ≤ k + i then l.getD (l.length - 1 - k) 0 else l.getD k 0
def revL (l : List UInt8) (i : Nat) : List DV := (List.range l.length).map fun k => B8 (revAt l i k)
theorem revL_length (l : List UInt8) (i : Nat) : (revL l i).length = l.length := by simp [revL]
theorem revL_zero (l : List UInt8) : revL l 0 = l.map B8 := by
 apply List.ext_getElem?
 intro k
 by_cases h : k < l.length
 · have hc : ¬ (k < 0 ∨ l.length ≤ k + 0) := by omega
   have e1 : (revL l 0)[k]? = some (B8 (revAt l 0 k)) := by simp [revL, h]
   have e2 : (l.map B8)[k]? = some (B8 (l.getD k 0)) := by simp [List.getD, h]
   rw [e1, e2, revAt, if_neg hc]
 · rw [List.getElem?_eq_none (by rw [revL_length]; omega), List.getElem?_eq_none (by rw [List.length_map]; omega)]
theorem revL_end (l : List UInt8) (i : Nat) (h : l.length ≤ 2 * i + 1) : revL l i = l.reverse.map B8 := by
 apply List.ext_getElem?
 intro k
 by_cases hk : k < l.length
 · have e1 : (revL l i)[k]? = some (B8 (revAt l i k)) := by simp [revL, hk]
   have e2 : (l.reverse.map B8)[k]? = some (B8 (l.getD (l.length - 1 - k) 0)) := by
    rw [List.getElem?_map, List.getElem?_reverse hk]
    have : l.length - 1 - k < l.length := by omega
    simp [List.getD, this]
   rw [e1, e2]
   unfold revAt
   split
   · rfl
   · rename_i hc
     have : l.length - 1 - k = k := by omega
     rw [this]
 · rw [List.getElem?_eq_none (by rw [revL_length]; omega), List.getElem?_eq_none (by rw [List.length_map, List.length_reverse]; omega)]
theorem revL_step (l : List UInt8) (rest : List DV) (i : Nat) (h : 2 * i + 1 < l.length) :
  (((revL l i ++ rest).set i (B8 (l.getD (l.length - 1 - i) 0))).set (l.length - 1 - i) (B8 (l.getD i 0))) = revL l (i + 1) ++ rest := by
 have hl := revL_length l i
 rw [List.set_append_left _ _ (by omega), List.set_append_left _ _ (by rw [List.length_set]; omega)]
 congr 1
 apply List.ext_getElem?
 intro k
 by_cases hk : k < l.length
 · have e2 : (revL l (i + 1))[k]? = some (B8 (revAt l (i + 1) k)) := by simp [revL, hk]
   have e1 : (revL l i)[k]? = some (B8 (revAt l i k)) := by simp [revL, hk]
   rw [e2, List.getElem?_set, List.getElem?_set]
   simp only [List.length_set, hl]
   by_cases c1 : l.length - 1 - i = k
   · rw [if_pos c1, if_pos (by omega)]
     unfold revAt
     rw [if_pos (by omega), show l.length - 1 - k = i by omega]
   · rw [if_neg c1]
     by_cases c2 : i = k
     · rw [if_pos c2, if_pos (by omega)]
       unfold revAt
       rw [if_pos (by omega), c2]
     · rw [if_neg c2, e1]
       unfold revAt
       by_cases c3 : k < i ∨ l.length ≤ k + i
       · rw [if_pos c3, if_pos (by omega)]
       · rw [if_neg c3, if_neg (by omega)]
 · rw [List.getElem?_eq_none (by simp [hl]; omega), List.getElem?_eq_none (by rw [revL_length]; omega)]
theorem revL_at (l : List UInt8) (rest : List DV) (i k : Nat) (hk : k < l.length) (h1 : i ≤ k) (h2 : k + i < l.length) : (revL l i ++ rest)[k]? = some (B8 (l.getD k 0)) := by
 rw [List.getElem?_append_left (by rw [revL_length]; exact hk)]
 have : ¬ (k < i ∨ l.length ≤ k + i) := by omega
 simp [revL, hk, revAt, this]
def revH (H : Hp) (g : Nat) (l : List UInt8) (i : Nat) (rest : List DV) (ty : TypeId) : Hp := H.upd g (some (.cells (revL l i ++ rest) ty))
theorem reverse_ok {H : Hp} {g : Nat} {l : List UInt8} {rest : List DV} {cap : Nat} {ty : TypeId} (hl : l.length ≤ 4611686018427387904) (hg : H g = some (.cells (l.map B8 ++ rest) ty)) :
  CALL prog G 162 [.win g 0 l.length cap] H (fun _ H' => H' = H.upd g (some (.cells (l.reverse.map B8 ++ rest) ty))) (fun _ _ => False) := by
 have h0 : H = revH H g l 0 rest ty := by rw [revH, revL_zero]; exact (Hp.upd_id hg).symm
 rw [h0]
 refine CALL.of cF162 (Nat.le_of_ble_eq_true rfl) ?_
 refine AC.seq (AC.reg ?_)
 refine go ?_
 refine RG.nilS ?_
 have hE : ∀ i, (revH H g l i rest ty).upd g (some (.cells (l.reverse.map B8 ++ rest) ty)) = H.upd g (some (.cells (l.reverse.map B8 ++ rest) ty)) := fun i => Hp.upd_upd
 rw [hE]
 refine AC.bloopH (α := Nat) (β := Unit) (fun i => l.length - i) (fun i => [(0, .win g 0 l.length cap), (2, .int .i64 i), (3, .int .i64 ((l.length : Int) - 1 - i))]) (fun i H' => H' = revH H g l i rest ty ∧ 2 * i ≤ l.length) (fun _ => []) (fun _ H' => H' = H.upd g (some (.cells (l.reverse.map B8 ++ rest) ty))) ?_ ?_ 0 _ ⟨rfl, by omega⟩ ⟨rfl, rfl, by simp [argFr, Fr.put, Fr.set], trivial⟩
 · intro _ He fr h _
   exact fin rfl h
 · rintro i H' ⟨rfl, h2⟩ ih ex
   refine AC.seq (AC.seq (AC.reg ?_))
   refine go ?_
   cases e1 : decide ((i : Int) < (l.length : Int) - 1 - i)
   · have e := of_decide_eq_false e1
     refine RG.nilS (AC.cond_f rfl (AC.exit (ex () _ _ ?_ trivial)))
     rw [revH, revL_end l i (by omega)]
   · have e := of_decide_eq_true e1
     have hj : ((l.length : Int) - 1 - i).toNat = l.length - 1 - i := by omega
     have hat : ∀ k, k < l.length → i ≤ k → k + i < l.length → partD false (0 + k * 1) 1 (revL l i ++ rest) = some (B8 (l.getD k 0)) := fun k a b c => by
      rw [Nat.zero_add, Nat.mul_one]; exact revL_at l rest i k a b c
     refine RG.nilS (AC.cond_t rfl (AC.skip (AC.seq (AC.block (AC.drawP [13, 15] rfl ?_)))))
     first|refine VP.z0 0 ?_|refine VP.z1 0 ?_|refine VP.z2 0 ?_|refine VP.z3 0 ?_|refine VP.z4 0 ?_|refine VP.z5 0 ?_|refine VP.z6 0 ?_|refine VP.z7 0 ?_|refine VP.z8 0 ?_
     first|refine VP.z0 1 ?_|refine VP.z1 1 ?_|refine VP.z2 1 ?_|refine VP.z3 1 ?_|refine VP.z4 1 ?_|refine VP.z5 1 ?_|refine VP.z6 1 ?_|refine VP.z7 1 ?_|refine VP.z8 1 ?_
     first|refine VP.z0 2 ?_|refine VP.z1 2 ?_|refine VP.z2 2 ?_|refine VP.z3 2 ?_|refine VP.z4 2 ?_|refine VP.z5 2 ?_|refine VP.z6 2 ?_|refine VP.z7 2 ?_|refine VP.z8 2 ?_
     first|refine VP.z0 3 ?_|refine VP.z1 3 ?_|refine VP.z2 3 ?_|refine VP.z3 3 ?_|refine VP.z4 3 ?_|refine VP.z5 3 ?_|refine VP.z6 3 ?_|refine VP.z7 3 ?_|refine VP.z8 3 ?_
     first|refine VP.z0 4 ?_|refine VP.z1 4 ?_|refine VP.z2 4 ?_|refine VP.z3 4 ?_|refine VP.z4 4 ?_|refine VP.z5 4 ?_|refine VP.z6 4 ?_|refine VP.z7 4 ?_|refine VP.z8 4 ?_
     first|refine VP.z0 5 ?_|refine VP.z1 5 ?_|refine VP.z2 5 ?_|refine VP.z3 5 ?_|refine VP.z4 5 ?_|refine VP.z5 5 ?_|refine VP.z6 5 ?_|refine VP.z7 5 ?_|refine VP.z8 5 ?_
     refine VP.v 6 rfl (evP_iadrW (i := (l.length : Int) - 1 - i) rfl rfl (by omega)) ?_
     rw [hj]
     refine VP.v 7 rfl (evP_ld rfl Hp.upd_same (hat (l.length - 1 - i) (by omega) (by omega) (by omega))) ?_
     first|refine VP.z0 8 ?_|refine VP.z1 8 ?_|refine VP.z2 8 ?_|refine VP.z3 8 ?_|refine VP.z4 8 ?_|refine VP.z5 8 ?_|refine VP.z6 8 ?_|refine VP.z7 8 ?_|refine VP.z8 8 ?_
     first|refine VP.z0 9 ?_|refine VP.z1 9 ?_|refine VP.z2 9 ?_|refine VP.z3 9 ?_|refine VP.z4 9 ?_|refine VP.z5 9 ?_|refine VP.z6 9 ?_|refine VP.z7 9 ?_|refine VP.z8 9 ?_
     refine VP.v 10 rfl (evP_iadrW (i := (i : Nat)) rfl rfl (by omega)) ?_
     rw [Int.toNat_natCast]
     refine VP.v 11 rfl (evP_ld rfl Hp.upd_same (hat i (by omega) (by omega) (by omega))) ?_
     refine VP.v 12 rfl (evP_iadrW (i := (i : Nat)) rfl rfl (by omega)) ?_
     rw [Int.toNat_natCast]
     refine VP.pe 13 rfl rfl (EF.sto (d := B8 (l.getD (l.length - 1 - i) 0)) (cs := revL l i ++ rest) (ty := ty) trivial rfl Hp.upd_same rfl rfl rfl (by rw [List.length_append, revL_length]; omega)) (fun _ _ _ h => h.elim) (fun d H2 ⟨f1, f2⟩ => ⟨?_, ?_⟩)
     · refine stabP_cons rfl (StabP.of (QV.evP trivial (evP_iadrW (i := (i : Nat)) rfl rfl (by omega))) rfl) ?_
       exact (by (repeat (refine stabP_cons rfl (by first | exact StabP.of (QV.evP trivial rfl) rfl | exact StabP.of (QV.evP trivial (evP_ld rfl hbb rfl)) rfl | exact StabP.of (QV.bsl trivial rfl) rfl) ?_)); exact stabP_nil)
     · subst f1; subst f2
       refine VP.v 14 rfl (evP_iadrW (i := (l.length : Int) - 1 - i) rfl rfl (by omega)) ?_
       rw [hj]
       refine VP.pe 15 rfl rfl (EF.sto (d := B8 (l.getD i 0)) trivial rfl Hp.upd_same rfl rfl rfl (by
        rw [Nat.zero_add, Nat.mul_one, splice_one (by rw [List.length_append, revL_length]; omega), List.length_set, List.length_append, revL_length]; omega)) (fun _ _ _ h => h.elim) (fun d H2 ⟨f1, f2⟩ => ⟨?_, ?_⟩)
       · exact stabP_nil
       · subst f1; subst f2
         refine VP.pd (AC.reg ?_)
         refine go ?_
         have hH : ((revH H g l i rest ty).upd g (some (.cells (spliceL (0 + i * 1) [B8 (l.getD (l.length - 1 - i) 0)] (revL l i ++ rest)) ty))).upd g (some (.cells (spliceL (0 + (l.length - 1 - i) * 1) [B8 (l.getD i 0)] (spliceL (0 + i * 1) [B8 (l.getD (l.length - 1 - i) 0)] (revL l i ++ rest))) ty)) = revH H g l (i + 1) rest ty := by
          rw [Hp.upd_upd, revH, Hp.upd_upd, revH]
          rw [Nat.zero_add, Nat.mul_one, Nat.zero_add, Nat.mul_one, splice_one (cs := revL l i ++ rest) (i := i) (by rw [List.length_append, revL_length]; omega), splice_one (by rw [List.length_set, List.length_append, revL_length]; omega), revL_step l rest i (by omega)]
         refine RG.nil ?_
         rw [hH]
         exact ih (i + 1) _ ⟨rfl, by omega⟩ (by omega) _ ⟨rfl, rfl, by simp [Fr.put, Fr.set, frOf]; omega, trivial⟩
theorem runG_append {σ α : Type} (step : σ → α → σ × Bool) : ∀ (a b : List α) (s : σ), runG step s (a ++ b) = bif (runG step s a).2 then runG step (runG step s a).1 b else ((runG step s a).1, false)
 | [], b, s => rfl
 | x :: a, b, s => by
   rw [List.cons_append, runG, runG]
   cases e : (step s x).2
   · rfl
   · rw [cond_true, cond_true]; exact runG_append step a b _
def F15 : FN := ⟨46, (.seq (.reg [ji 2 (.alloc [(.int .i64 0), (.str []), (.str []), (.bool false), .nils] 24), ji 3 (.alloc [(.int .i64 0)] 3), ji 4 (.alloc [(.int .i64 0)] 29)])
 (.seq (.block 0 (.seq (.reg [ji 8 (.mv (.t 0)), ji 9 (.len true (.t 8)), ji 10 (.bin .gtr (.t 9) (ci 12000)), ji 7 (.mv (.t 10))])
 (.cond (.t 7) (.seq (.reg [ji 11 (.bld [(.int .i64 0), (.str []), (.str []), (.bool false), .nils] []), jn (.st 5 (.t 2) (.t 11)), jn (.st 1 (.t 3) (ci 0)), jn (.st 1 (.t 4) (ci 8))])
 .ret)
 (.seq (.reg [ji 13 (.mv (.t 0)), ji 14 (.call 48 [(.t 13)]), ji 15 (.un .not (.t 14)), ji 12 (.mv (.t 15))])
 (.cond (.t 12) (.seq (.reg [ji 16 (.bld [(.int .i64 0), (.str []), (.str []), (.bool false), .nils] []), jn (.st 5 (.t 2) (.t 16)), jn (.st 1 (.t 3) (ci 0)), jn (.st 1 (.t 4) (ci 16))])
 .ret)
 .skip)))))
 (.seq (.reg [ji 17 (.mkfn (.func 49) [] [(.t 2), (.t 3), (.t 4)]),
  ⟨none, none, .oth (.defer ⟨.value (.tmp 17), #[], #[]⟩)⟩])
 (.seq (.reg [ji 18 (.mv (.t 0)), ji 19 (.bld [(.str []), (.int .i64 0)] [(0, 1, (.t 18))]), ji 20 (.box 91 (.t 19)), ji 5 (.mv (.t 20))])
 (.seq (.seq (.reg [ji 21 (.mv (.t 5)), ji 22 (.call 50 [(.t 21), (.c (.str [60, 63, 120, 109, 108]))])])
 (.cond (.t 22) (.reg [ji 23 (.mv (.t 5)), ji 24 (.call 51 [(.t 23), (.c (.str [63, 62]))])])
 .skip))
 (.seq (.reg [ji 25 (.mv (.t 5)), ji 26 (.call 52 [(.t 25)])])
 (.seq (.reg [ji 27 (.mv (.t 5)), ji 28 (.call 53 [(.t 27), (ci 0), (ci 1)]), jn (.st 5 (.t 2) (.t 28))])
 (.seq (.reg [ji 29 (.mv (.t 5)), ji 30 (.call 52 [(.t 29)])])
 (.seq (.draw [ji 31 (.mv (.t 5)), ji 32 (.call 55 [(.t 31)]), ji 33 (.bin .eql (.t 32) (.c (.str []))), ji 34 (.mv (.t 5)), ji 35 (.nilc (.t 34)), ji 36 (.fadr 1 (.t 35)), ji 37 (.ld false 1 (.t 36)), ji 38 (.call 54 [(.t 33), (.t 37), (ci 6)])] [[], [0], [1], [], [3], [4], [5], [2, 6, 1]])
 (.seq (.seq (.reg [ji 39 (.ld true 5 (.t 2)), ji 40 (.call 38 [(.t 39)]), ji 6 (.mv (.t 40))])
 (.seq (.reg [ji 41 (.mv (.t 6)), ji 42 (.bin .neq (.t 41) (ci 0))])
 (.cond (.t 42) (.seq (.reg [ji 43 (.bld [(.int .i64 0), (.str []), (.str []), (.bool false), .nils] []), ji 44 (.mv (.t 6)), jn (.st 5 (.t 2) (.t 43)), jn (.st 1 (.t 3) (ci 0)), jn (.st 1 (.t 4) (.t 44))])
 .ret)
 .skip)))
 (.seq (.reg [ji 45 (.ld true 5 (.t 2)), jn (.st 5 (.t 2) (.t 45)), jn (.st 1 (.t 3) (ci 0)), jn (.st 1 (.t 4) (ci 0))])
 .ret))))))))))), [.cell 2 true 5, .cell 3 false 1, .cell 4 false 1]⟩
theorem cF15 : cFn prog 15 = some F15 := by kernel_rfl
def F49 : FN := ⟨16, (.seq (.reg [⟨(some 6), none, .oth (.call ⟨.builtin .recover, #[], #[]⟩)⟩, ji 7 (.oth (.typeAssert (.tmp 6) 20 87 true)), ji 5 (.mv (.t 7)), ji 8 (.ext (.t 5) 0), ji 9 (.ext (.t 5) 1), ji 3 (.alloc [(.int .i64 0), (.int .i64 0)] 87), jn (.st 2 (.t 3) (.t 8)), ji 4 (.mv (.t 9))])
 (.seq (.reg [ji 10 (.mv (.t 4))])
 (.cond (.t 10) (.draw [ji 11 (.bld [(.int .i64 0), (.str []), (.str []), (.bool false), .nils] []), ji 12 (.fadr 0 (.t 3)), ji 13 (.ld false 1 (.t 12)), ji 14 (.fadr 1 (.t 3)), ji 15 (.ld false 1 (.t 14)), jn (.st 5 (.t 0) (.t 11)), jn (.st 1 (.t 1) (.t 13)), jn (.st 1 (.t 2) (.t 15))] [[], [], [1], [], [3], [0, 0], [2, 5, 0, 1, 2, 5], [4, 6, 0, 1, 2, 3, 4, 5, 6]])
 .skip))), []⟩
theorem cF49 : cFn prog 49 = some F49 := by kernel_rfl
theorem EF_sto {x y : X} {b off sz N : Nat} {r dst : Option Nat} {fr : Fr} {H : Hp} {d : DV} {cs ys : List DV} {ty : TypeId} (hx : XV G fr x = .ptr b off) (hb : H b = some (.cells cs ty)) (hy : XV G fr y = d) (hc : cellsD d = some ys) (hl : ys.length = sz) (hle : off + sz ≤ cs.length) :
  EF prog G r N ⟨dst, none, .st sz x y⟩ (fun d' H' => d' = .junk ∧ H' = H.upd b (some (.cells (spliceL off ys cs) ty))) (fun _ _ => False) fr H := by
 intro fr1 l Q hs k kp
 have e : ∀ z, z = x ∨ z = y → XV G fr1 z = XV G fr z := fun z hz => XV_congr fun t ht => hs t (by
  unfold slotsI; exact List.mem_append_left _ (List.mem_flatMap.2 ⟨z, by rcases hz with rfl | rfl <;> simp [opX], ht⟩))
 exact RG.sto (g := none) trivial ((e x (.inl rfl)).trans hx) hb ((e y (.inr rfl)).trans hy) hc hl hle (k _ _ ⟨rfl, rfl⟩)
noncomputable def faultFs : Array Field := match (prog).underlying 87 with | some (.struct fs) => fs | _ => #[]
theorem fault_under : (prog).underlying 87 = some (.struct faultFs) := by kernel_rfl
theorem fault_info : (prog).info? 87 = some Go.Proofs.Tryz.t87 := by kernel_rfl
theorem spl2 (a b c d : DV) : spliceL 0 [a, b] [c, d] = [a, b] := rfl
theorem read1_some {b2 b3 b4 : Nat} {y0 y1 y2 y3 y4 x3 x4 : DV} {t2 t3 t4 : TypeId} {H : Hp} (h2 : H b2 = some (.cells [y0, y1, y2, y3, y4] t2)) (h3 : H b3 = some (.cells [x3] t3)) (h4 : H b4 = some (.cells [x4] t4)) (h23 : b2 ≠ b3) (h24 : b2 ≠ b4) (h34 : b3 ≠ b4) (a e : Int) :
  DCALL prog G 49 [.ptr b2 0, .ptr b3 0, .ptr b4 0] (some (fault a e)) H (fun H' => SubH (((H.upd b2 (some (.cells Z5 t2))).upd b3 (some (.cells [.int .i64 a] t3))).upd b4 (some (.cells [.int .i64 e] t4))) H') := by
 refine DCALL.of cF49 (Nat.le_of_ble_eq_true rfl) rfl rfl rfl ?_
 refine RG.st (ST.assertY fault_under rfl ?_)
 refine go1 ?_
 refine go1 ?_
 refine go1 ?_
 refine RG.alloc .d fun q hq => ?_
 have hq2 : q ≠ b2 := fun e => by rw [e, h2] at hq; cases hq
 have hq3 : q ≠ b3 := fun e => by rw [e, h3] at hq; cases hq
 have hq4 : q ≠ b4 := fun e => by rw [e, h4] at hq; cases hq
 refine RG.sto (ys := [.int .i64 a, .int .i64 e]) .d wh Hp.upd_same (by exact rfl) rfl rfl (by exact Nat.le_refl _) ?_
 rw [Hp.upd_upd, spl2]
 have hqq : (H.upd q (some (.cells [.int .i64 a, .int .i64 e] 87))) q = some (.cells [.int .i64 a, .int .i64 e] 87) := Hp.upd_same
 have hk2 : (H.upd q (some (.cells [.int .i64 a, .int .i64 e] 87))) b2 = some (.cells [y0, y1, y2, y3, y4] t2) := by rw [Hp.upd_ne (Ne.symm hq2)]; exact h2
 have hk3 : (H.upd q (some (.cells [.int .i64 a, .int .i64 e] 87))) b3 = some (.cells [x3] t3) := by rw [Hp.upd_ne (Ne.symm hq3)]; exact h3
 have hk4 : (H.upd q (some (.cells [.int .i64 a, .int .i64 e] 87))) b4 = some (.cells [x4] t4) := by rw [Hp.upd_ne (Ne.symm hq4)]; exact h4
 have hsub : SubH (((H.upd b2 (some (.cells Z5 t2))).upd b3 (some (.cells [.int .i64 a] t3))).upd b4 (some (.cells [.int .i64 e] t4))) ((((H.upd q (some (.cells [.int .i64 a, .int .i64 e] 87))).upd b2 (some (.cells Z5 t2))).upd b3 (some (.cells [.int .i64 a] t3))).upd b4 (some (.cells [.int .i64 e] t4))) :=
  SubH.updB (SubH.updB (SubH.updB (SubH.fresh hq) b2 _) b3 _) b4 _
 generalize H.upd q (some (.cells [.int .i64 a, .int .i64 e] 87)) = HH at hqq hk2 hk3 hk4 hsub ⊢
 refine go ?_
 refine RG.nilS (AC.seq (AC.reg ?_))
 refine go ?_
 refine RG.nilS (AC.cond_t rfl (AC.drawV [5, 6, 7] rfl ?_))
 first|refine VD.z0 0 ?_|refine VD.z1 0 ?_|refine VD.z2 0 ?_|refine VD.z3 0 ?_|refine VD.z4 0 ?_|refine VD.z5 0 ?_
 first|refine VD.z0 1 ?_|refine VD.z1 1 ?_|refine VD.z2 1 ?_|refine VD.z3 1 ?_|refine VD.z4 1 ?_|refine VD.z5 1 ?_
 first|refine VD.z0 2 ?_|refine VD.z1 2 ?_|refine VD.z2 2 ?_|refine VD.z3 2 ?_|refine VD.z4 2 ?_|refine VD.z5 2 ?_
 first|refine VD.z0 3 ?_|refine VD.z1 3 ?_|refine VD.z2 3 ?_|refine VD.z3 3 ?_|refine VD.z4 3 ?_|refine VD.z5 3 ?_
 first|refine VD.z0 4 ?_|refine VD.z1 4 ?_|refine VD.z2 4 ?_|refine VD.z3 4 ?_|refine VD.z4 4 ?_|refine VD.z5 4 ?_
 refine VD.pe 5 rfl rfl (EF_sto (d := .agg Z5) (cs := [y0, y1, y2, y3, y4]) (ty := t2) rfl hk2 rfl rfl rfl (by exact Nat.le_refl _)) (fun _ _ _ h => h.elim) (fun d H' ⟨f1, f2⟩ => ⟨?_, ?_⟩)
 · subst f2; exact stb
 subst f1; subst f2
 refine VD.pe 6 rfl rfl (EF_sto (d := .int .i64 a) (cs := [x3]) (ty := t3) rfl (by rw [Hp.upd_ne (Ne.symm h23)]; exact hk3) rfl rfl rfl (by exact Nat.le_refl _)) (fun _ _ _ h => h.elim) (fun d H' ⟨f1, f2⟩ => ⟨?_, ?_⟩)
 · subst f2; exact stb
 subst f1; subst f2
 refine VD.pe 7 rfl rfl (EF_sto (d := .int .i64 e) (cs := [x4]) (ty := t4) rfl (by rw [Hp.upd_ne (Ne.symm h34), Hp.upd_ne (Ne.symm h24)]; exact hk4) rfl rfl rfl (by exact Nat.le_refl _)) (fun _ _ _ h => h.elim) (fun d H' ⟨f1, f2⟩ => ⟨?_, ?_⟩)
 · subst f2; exact stb
 subst f1; subst f2
 refine VD.pd rfl ?_
 exact hsub
theorem read1_none {b2 b3 b4 : Nat} {H : Hp} : DCALL prog G 49 [.ptr b2 0, .ptr b3 0, .ptr b4 0] none H (fun H' => SubH H H') := by
 refine DCALL.of cF49 (Nat.le_of_ble_eq_true rfl) rfl rfl rfl ?_
 refine RG.st (ST.assertN (d0 := .agg [.int .i64 0, .int .i64 0]) fault_under fault_info (z0 := .agg #[.int .i64 0, .int .i64 0]) rfl ?_ rfl ?_)
 · intro w H Z
   refine .agg _ _ rfl (fun j v h => ?_) (fun j v d h1 h2 => ?_)
   · match j with
     | 0 => simp at h; subst h; rfl
     | 1 => simp at h; subst h; rfl
     | j + 2 => simp at h
   · match j with
     | 0 => simp at h1 h2; subst h1; subst h2; exact .int _ _
     | 1 => simp at h1 h2; subst h1; subst h2; exact .int _ _
     | j + 2 => simp at h2
 refine go1 ?_
 refine go1 ?_
 refine go1 ?_
 refine RG.alloc .d fun q hq => ?_
 refine RG.sto (ys := [.int .i64 0, .int .i64 0]) .d wh Hp.upd_same (by exact rfl) rfl rfl (by exact Nat.le_refl _) ?_
 rw [Hp.upd_upd]
 refine go ?_
 refine RG.nilS (AC.seq (AC.reg ?_))
 refine go ?_
 refine RG.nilS (AC.cond_f rfl (AC.skip ?_))
 exact SubH.fresh hq
def rdRs : List RV := [.cell 2 true 5, .cell 3 false 1, .cell 4 false 1]
theorem rd3 {fr : Fr} {He : Hp} {b2 b3 b4 : Nat} {y0 y1 y2 y3 y4 x3 x4 : DV} {t2 t3 t4 : TypeId} (e2 : fr 2 = .ptr b2 0) (e3 : fr 3 = .ptr b3 0) (e4 : fr 4 = .ptr b4 0) (h2 : He b2 = some (.cells [y0, y1, y2, y3, y4] t2)) (h3 : He b3 = some (.cells [x3] t3)) (h4 : He b4 = some (.cells [x4] t4)) :
  evRes He fr rdRs = some [.agg [y0, y1, y2, y3, y4], x3, x4] := by
 have k2 : ldD He true 5 (.ptr b2 0) = some (.agg [y0, y1, y2, y3, y4]) := by unfold ldD; dsimp only; rw [h2]; rfl
 have k3 : ldD He false 1 (.ptr b3 0) = some x3 := by unfold ldD; dsimp only; rw [h3]; rfl
 have k4 : ldD He false 1 (.ptr b4 0) = some x4 := by unfold ldD; dsimp only; rw [h4]; rfl
 simp only [rdRs, evRes, e2, e3, e4, k2, k3, k4, Option.bind_some]
def KrR (s : List UInt8) (H : Hp) : DV → Hp → Prop := fun d H' => d = .tup [.agg (elC (readF s).1), .int .i64 (readF s).2.1, .int .i64 (readF s).2.2] ∧ H' = H
theorem finR_ok {s : List UInt8} {H : Hp} {fr : Fr} {He : Hp} {b2 b3 b4 : Nat} {y0 y1 y2 y3 y4 : DV} {t2 t3 t4 : TypeId} {x : El} {a e : Int} (hR : readF s = (x, a, e)) (e2 : fr 2 = .ptr b2 0) (e3 : fr 3 = .ptr b3 0) (e4 : fr 4 = .ptr b4 0)
  (h2 : He b2 = some (.cells [y0, y1, y2, y3, y4] t2)) (h3 : He b3 = some (.cells [.int .i64 a] t3)) (h4 : He b4 = some (.cells [.int .i64 e] t4)) (hle : DLe (.agg [y0, y1, y2, y3, y4]) (.agg (elC x))) (hs : SubH H He) : FinR rdRs (KrR s H) fr He := by
 refine ⟨_, .tup [.agg (elC x), .int .i64 a, .int .i64 e], H, rd3 e2 e3 e4 h2 h3 h4, Cv.of ?_ hs, ?_, rfl⟩
 · exact (DLes.cons hle (.cons (DLe.refl _) (.cons (DLe.refl _) .nil))).tup
 · rw [hR]
theorem el0_le : DLe (.agg [.int .i64 0, .str [], .str [], .bool false, .nils]) (.agg (elC El0)) := by
 have : elC El0 = [.int .i64 0, .str [], .str [], .bool false, .lst [] 0 5 none] := by rw [El0, elC]; rfl
 rw [this]
 exact (DLes.cons (DLe.refl _) (.cons (DLe.refl _) (.cons (DLe.refl _) (.cons (DLe.refl _) (.cons DLe.nils .nil))))).agg
theorem badR {s : List UInt8} {H : Hp} {fr : Fr} {He : Hp} {b2 b3 b4 : Nat} {y0 y1 y2 y3 y4 x3 x4 : DV} {t2 t3 t4 : TypeId} {a e : Int} (hR : readF s = (El0, a, e)) (e2 : fr 2 = .ptr b2 0) (e3 : fr 3 = .ptr b3 0) (e4 : fr 4 = .ptr b4 0)
  (h2 : He b2 = some (.cells [y0, y1, y2, y3, y4] t2)) (h3 : He b3 = some (.cells [x3] t3)) (h4 : He b4 = some (.cells [x4] t4)) (h23 : b2 ≠ b3) (h24 : b2 ≠ b4) (h34 : b3 ≠ b4) (g2 : H b2 = none) (g3 : H b3 = none) (g4 : H b4 = none) (hs : SubH H He) :
  FinD prog G 49 [.ptr b2 0, .ptr b3 0, .ptr b4 0] rdRs (KrR s H) (.panic (fault a e)) fr He := by
 refine (read1_some h2 h3 h4 h23 h24 h34 a e).mono fun H' hk => ?_
 refine finR_ok (t2 := t2) (t3 := t3) (t4 := t4) hR e2 e3 e4 (hk _ _ ?_) (hk _ _ ?_) (hk _ _ ?_) el0_le (SubH.trans (SubH.over (SubH.over (SubH.over hs g2) g3) g4) hk)
 · rw [Hp.upd_ne h24, Hp.upd_ne h23]; exact Hp.upd_same
 · rw [Hp.upd_ne h34]; exact Hp.upd_same
 · exact Hp.upd_same
theorem goodR {s : List UInt8} {H : Hp} {fr : Fr} {He : Hp} {b2 b3 b4 : Nat} {y0 y1 y2 y3 y4 : DV} {t2 t3 t4 : TypeId} {x : El} {a e : Int} (hR : readF s = (x, a, e)) (e2 : fr 2 = .ptr b2 0) (e3 : fr 3 = .ptr b3 0) (e4 : fr 4 = .ptr b4 0)
  (h2 : He b2 = some (.cells [y0, y1, y2, y3, y4] t2)) (h3 : He b3 = some (.cells [.int .i64 a] t3)) (h4 : He b4 = some (.cells [.int .i64 e] t4)) (hle : DLe (.agg [y0, y1, y2, y3, y4]) (.agg (elC x))) (hs : SubH H He) :
  FinD prog G 49 [.ptr b2 0, .ptr b3 0, .ptr b4 0] rdRs (KrR s H) .ret fr He :=
 read1_none.mono fun _ hk => finR_ok hR e2 e3 e4 (hk _ _ h2) (hk _ _ h3) (hk _ _ h4) hle (hs.trans hk)
theorem noDst {l : List Ins} {t : Nat} (h : l.all (fun y => !(y.dst == some t)) = true) : ∀ (j : Nat) (y : Ins), l[j]? = some y → y.dst ≠ some t := by
 intro j y hj e
 have := List.all_eq_true.1 h y (List.mem_of_getElem? hj)
 rw [e] at this
 simp at this
def R3 (H : Hp) (b2 b3 b4 : Nat) (c2 : List DV) (x3 x4 : DV) : Hp := ((H.upd b2 (some (.cells c2 elT))).upd b3 (some (.cells [x3] 3))).upd b4 (some (.cells [x4] 29))
theorem Read_ok (hG : GOK G) (s : List UInt8) : PF prog G 15 [.str s] (.tup [.agg (elC (readF s).1), .int .i64 (readF s).2.1, .int .i64 (readF s).2.2]) := by
 intro H
 show CALL prog G 15 [.str s] H (KrR s H) (fun _ _ => False)
 refine CALL.ofD cF15 (Nat.le_of_ble_eq_true rfl) rfl rfl rfl (by decide) (fun fr He => ∃ b2 b3 b4, Agrees fr [(0, .str s), (2, .ptr b2 0), (3, .ptr b3 0), (4, .ptr b4 0)] ∧ He = R3 H b2 b3 b4 Z5 (.int .i64 0) (.int .i64 0) ∧ H b2 = none ∧ H b3 = none ∧ H b4 = none ∧ b2 ≠ b3 ∧ b2 ≠ b4 ∧ b3 ≠ b4 ∧ decide (((s.length : Nat) : Int) > 12000) = false ∧ Lib.validD s = true) ?_ ?_ ?_
 · refine AC.reg ?_
   refine RG.alloc .d fun b2 g2 => ?_
   refine RG.alloc .d fun b3 g3' => ?_
   refine RG.alloc .d fun b4 g4' => ?_
   have h23 : b2 ≠ b3 := fun e => by rw [← e, Hp.upd_same] at g3'; cases g3'
   have h34 : b3 ≠ b4 := fun e => by rw [← e, Hp.upd_same] at g4'; cases g4'
   have h24 : b2 ≠ b4 := fun e => by rw [← e, Hp.upd_ne h23, Hp.upd_same] at g4'; cases g4'
   have g3 : H b3 = none := by rw [Hp.upd_ne (Ne.symm h23)] at g3'; exact g3'
   have g4 : H b4 = none := by rw [Hp.upd_ne (Ne.symm h34), Hp.upd_ne (Ne.symm h24)] at g4'; exact g4'
   have hk2 : (R3 H b2 b3 b4 Z5 (.int .i64 0) (.int .i64 0)) b2 = some (.cells Z5 elT) := by unfold R3; rw [Hp.upd_ne h24, Hp.upd_ne h23]; exact Hp.upd_same
   have hk3 : (R3 H b2 b3 b4 Z5 (.int .i64 0) (.int .i64 0)) b3 = some (.cells [.int .i64 0] 3) := by unfold R3; rw [Hp.upd_ne h34]; exact Hp.upd_same
   have hk4 : (R3 H b2 b3 b4 Z5 (.int .i64 0) (.int .i64 0)) b4 = some (.cells [.int .i64 0] 29) := by unfold R3; exact Hp.upd_same
   have hsub : SubH H (R3 H b2 b3 b4 Z5 (.int .i64 0) (.int .i64 0)) := SubH.over (SubH.over (SubH.over (SubH.refl H) g2) g3) g4
   have hHH : ((H.upd b2 (some (.cells [.int .i64 0, .str [], .str [], .bool false, .nils] 24))).upd b3 (some (.cells [.int .i64 0] 3))).upd b4 (some (.cells [.int .i64 0] 29)) = R3 H b2 b3 b4 Z5 (.int .i64 0) (.int .i64 0) := rfl
   rw [hHH]
   -- an early end
   have early : ∀ {e : Int} {fr : Fr} {He : Hp}, readF s = (El0, 0, e) → fr 2 = .ptr b2 0 → fr 3 = .ptr b3 0 → fr 4 = .ptr b4 0 → He = ((((R3 H b2 b3 b4 Z5 (.int .i64 0) (.int .i64 0)).upd b2 (some (.cells Z5 elT))).upd b3 (some (.cells [.int .i64 0] 3))).upd b4 (some (.cells [.int .i64 e] 29))) →
     Fin rdRs (KrR s H) (fun _ _ => False) .ret fr He := by
    intro e fr He hR e2 e3 e4 hHe
    subst hHe
    refine finR_ok (t2 := elT) (t3 := 3) (t4 := 29) hR e2 e3 e4 ?_ ?_ ?_ el0_le (SubH.over (SubH.over (SubH.over hsub g2) g3) g4)
    · rw [Hp.upd_ne h24, Hp.upd_ne h23]; exact Hp.upd_same
    · rw [Hp.upd_ne h34]; exact Hp.upd_same
    · exact Hp.upd_same
   generalize hRR : R3 H b2 b3 b4 Z5 (.int .i64 0) (.int .i64 0) = HH at hk2 hk3 hk4 early ⊢
   refine RG.nilS (AC.block (AC.seq (AC.reg ?_)))
   refine go1 ?_
   refine go1 ?_
   refine RG.p (d := .bool (decide (((s.length : Nat) : Int) > 12000))) .d rfl ?_
   refine go1 ?_
   cases e1 : decide (((s.length : Nat) : Int) > 12000)
   case true =>
    refine RG.nilS (AC.cond_t rfl (AC.seq (AC.reg ?_)))
    refine go1 ?_
    refine RG.sto (d := .agg Z5) (cs := Z5) (ty := elT) .d rfl hk2 rfl rfl rfl (by exact Nat.le_refl _) ?_
    refine RG.sto1 .d rfl (by rw [Hp.upd_ne (Ne.symm h23)]; exact hk3) rfl rfl ?_
    refine RG.sto1 .d rfl (by rw [Hp.upd_ne (Ne.symm h34), Hp.upd_ne (Ne.symm h24)]; exact hk4) rfl rfl ?_
    exact RG.nilS (AC.ret (early (by rw [readF, e1, cond_true]) rfl rfl rfl rfl))
   refine RG.nilS (AC.cond_f rfl (AC.seq (AC.reg ?_)))
   have hle := of_decide_eq_false e1
   refine go1 ?_
   refine RG.callP (ds := [.str s]) (d := .bool (Lib.validD s)) .d (by exact rfl) ?_ ?_
   · exact charsetValid_ok hG s (by omega)
   refine RG.p (d := .bool (!(Lib.validD s))) .d rfl ?_
   refine go1 ?_
   cases e2 : Lib.validD s
   · refine RG.nilS (AC.cond_t rfl (AC.seq (AC.reg ?_)))
     refine go1 ?_
     refine RG.sto (d := .agg Z5) (cs := Z5) (ty := elT) .d rfl hk2 rfl rfl rfl (by exact Nat.le_refl _) ?_
     refine RG.sto1 .d rfl (by rw [Hp.upd_ne (Ne.symm h23)]; exact hk3) rfl rfl ?_
     refine RG.sto1 .d rfl (by rw [Hp.upd_ne (Ne.symm h34), Hp.upd_ne (Ne.symm h24)]; exact hk4) rfl rfl ?_
     exact RG.nilS (AC.ret (early (by rw [readF, e1, e2, cond_false, Bool.not_false, cond_true]) rfl rfl rfl rfl))
   refine RG.nilS (AC.cond_f rfl (AC.skip ?_))
   exact ⟨b2, b3, b4, ⟨rfl, rfl, rfl, rfl, trivial⟩, hRR.symm, g2, g3, g4, h23, h24, h34, (by first | rfl | exact e1), (by first | rfl | exact e2)⟩
 · rintro fr He ⟨b2, b3, b4, ⟨f0, f2, f3, f4, _⟩, rfl, g2, g3, g4, h23, h24, h34, e1, e2⟩
   have hv : [X.t 2, X.t 3, X.t 4].map (XV G fr) = [.ptr b2 0, .ptr b3 0, .ptr b4 0] := by
    show [fr 2, fr 3, fr 4] = _
    rw [f2, f3, f4]
   rw [hv]
   refine AC.to [(0, .str s), (2, .ptr b2 0), (3, .ptr b3 0), (4, .ptr b4 0)] ⟨f0, f2, f3, f4, trivial⟩ ?_
   have hle := of_decide_eq_false e1
   have hRF : readF s = match readR s with | .error e => (El0, e.1, e.2) | .ok x => (x, 0, 0) := by rw [readF, e1, e2, cond_false, Bool.not_true, cond_false]; rfl
   have hk2 : (R3 H b2 b3 b4 Z5 (.int .i64 0) (.int .i64 0)) b2 = some (.cells Z5 elT) := by unfold R3; rw [Hp.upd_ne h24, Hp.upd_ne h23]; exact Hp.upd_same
   have hk3 : (R3 H b2 b3 b4 Z5 (.int .i64 0) (.int .i64 0)) b3 = some (.cells [.int .i64 0] 3) := by unfold R3; rw [Hp.upd_ne h34]; exact Hp.upd_same
   have hk4 : (R3 H b2 b3 b4 Z5 (.int .i64 0) (.int .i64 0)) b4 = some (.cells [.int .i64 0] 29) := by unfold R3; exact Hp.upd_same
   have hsub : SubH H (R3 H b2 b3 b4 Z5 (.int .i64 0) (.int .i64 0)) := SubH.over (SubH.over (SubH.over (SubH.refl H) g2) g3) g4
   generalize R3 H b2 b3 b4 Z5 (.int .i64 0) (.int .i64 0) = HH at hk2 hk3 hk4 hsub ⊢
   refine AC.seq (AC.reg ?_)
   refine go1 ?_
   refine go1 ?_
   refine RG.box (ys := [.str s, .int .i64 0]) .d rfl rfl fun b hb => ?_
   have hb2 : b2 ≠ b := fun e => by rw [← e, hk2] at hb; cases hb
   have hb3 : b3 ≠ b := fun e => by rw [← e, hk3] at hb; cases hb
   have hb4 : b4 ≠ b := fun e => by rw [← e, hk4] at hb; cases hb
   have gb : H b = none := by
    cases h : H b with
    | none => rfl
    | some o => rw [hsub _ _ h] at hb; cases hb
   refine go1 ?_
   have hHb : HH.upd b (some (.cells [.str s, .int .i64 0] 91)) = HH.upd b (rd s 0 91) := rfl
   rw [hHb]
   -- where the reader stands at 'i'
   have bad : ∀ {HX : Hp} {y0 y1 y2 y3 y4 : DV} {i : Nat} {e : Int × Int} {fr : Fr}, HX b2 = some (.cells [y0, y1, y2, y3, y4] elT) → HX b3 = some (.cells [.int .i64 0] 3) → HX b4 = some (.cells [.int .i64 0] 29) → SubH H HX → readR s = .error e → fr 2 = .ptr b2 0 → fr 3 = .ptr b3 0 → fr 4 = .ptr b4 0 → FinD prog G 49 [.ptr b2 0, .ptr b3 0, .ptr b4 0] rdRs (KrR s H) (.panic (fault e.1 e.2)) fr (HX.upd b (rd s i 91)) := by
    intro HX y0 y1 y2 y3 y4 i e fr hk2 hk3 hk4 hsub hR e2 e3 e4
    exact badR (by rw [hRF, hR]) e2 e3 e4 (by rw [Hp.upd_ne hb2]; exact hk2) (by rw [Hp.upd_ne hb3]; exact hk3) (by rw [Hp.upd_ne hb4]; exact hk4) h23 h24 h34 g2 g3 g4 (SubH.over hsub gb)
   refine RG.nilS (AC.seqI (I := fun fr' H2 => ∃ v i, (bif List.isPrefixOf headB s then uptoF s headE 5 else .ok ([], 0)) = .ok (v, i) ∧ i ≤ s.length ∧ H2 = HH.upd b (rd s i 91) ∧ Agrees fr' [(2, .ptr b2 0), (3, .ptr b3 0), (4, .ptr b4 0), (5, .ptr b 0)]) ?_ ?_)
   · refine AC.seq (AC.reg ?_)
     refine go1 ?_
     refine RG.callR .d rfl (has_ok (t := headB) Hp.upd_same (by omega) (by have : headB.length = 5 := rfl; omega)) ?_
     rw [Hp.upd_upd, List.drop_zero]
     cases e3 : List.isPrefixOf headB s
     · refine RG.nilS (AC.cond_f rfl (AC.skip ?_))
       exact ⟨[], 0, rfl, by omega, rfl, rfl, rfl, rfl, rfl, trivial⟩
     · have hpl := prefix_le (t := headB) (s := s) (i := 0) (by rw [List.drop_zero]; exact e3) (by simp [headB])
       have h5 : headB.length = 5 := rfl
       rw [h5] at hpl
       rw [cond_true, h5]
       refine RG.nilS (AC.cond_t rfl (AC.reg ?_))
       refine go1 ?_
       refine RG.call .d rfl (upto_ok' hG (t := headE) (i := 0 + 5) Hp.upd_same (by omega) (by have : headE.length = 2 := rfl; omega)) (fun d H3 ⟨⟨v, k2⟩, u1, u2, u3⟩ => ?_) (fun d H3 ⟨e, k2, u1, u2, u3, u4⟩ => ?_)
       · subst u3
         rw [Hp.upd_upd]
         have hp := uptoF_prog u1 (by omega)
         exact RG.nil ⟨v, k2, u1, hp.2, rfl, rfl, rfl, rfl, rfl, trivial⟩
       · subst u2; subst u4
         rw [Hp.upd_upd]
         refine bad hk2 hk3 hk4 hsub ?_ rfl rfl rfl
         have u1' : uptoF s headE 5 = .error e := u1
         rw [readR, e3, cond_true, u1']
   rintro fr' H2 ⟨v, i, hX, hi, rfl, hag⟩
   refine AC.to [(2, .ptr b2 0), (3, .ptr b3 0), (4, .ptr b4 0), (5, .ptr b 0)] hag ?_
   have hw := wsN_le (s.drop i)
   rw [List.length_drop] at hw
   refine AC.seq (AC.reg ?_)
   refine go1 ?_
   refine RG.callR .d rfl (space_ok Hp.upd_same hi (by omega)) ?_
   rw [Hp.upd_upd]
   refine RG.nilS (AC.seq (AC.reg ?_))
   refine go1 ?_
   refine RG.call .d rfl (elem_ok hG (by omega) 11 1 rfl 0 (i + wsN (s.drop i)) _ Hp.upd_same (by omega)) (fun d H3 ⟨⟨x, j⟩, u1, u2, u3⟩ => ?_) (fun d H3 ⟨e, k2, u1, u2, u3, u4⟩ => ?_)
   rotate_left
   · subst u2; subst u4
     rw [Hp.upd_upd]
     refine bad hk2 hk3 hk4 hsub ?_ rfl rfl rfl
     rw [readR, hX]
     dsimp only
     rw [u1]
   subst u2; subst u3
   rw [Hp.upd_upd]
   obtain ⟨hj1, hj2, hfit⟩ := elemF_prog 11 0 _ x j (by omega) u1
   obtain ⟨c0, c1, c2, c3, c4, hC⟩ : ∃ c0 c1 c2 c3 c4, elC x = [c0, c1, c2, c3, c4] := by
    obtain ⟨p, n, t, o, ks⟩ := x
    exact ⟨_, _, _, _, _, by rw [elC]⟩
   refine RG.sto (d := .agg (elC x)) (cs := Z5) (ty := elT) .d rfl (by rw [Hp.upd_ne hb2]; exact hk2) rfl rfl (elC_length x) (by exact Nat.le_refl _) ?_
   have hspl : spliceL 0 (elC x) Z5 = elC x := by rw [hC]; rfl
   rw [hspl, Hp.upd_comm (Ne.symm hb2)]
   have hRE : readR s = bif s.drop (j + wsN (s.drop j)) == [] then (bif checkF x == 0 then .ok x else .error (0, checkF x)) else .error (((j + wsN (s.drop j) : Nat) : Int), 6) := by
    rw [readR, hX]
    dsimp only
    rw [u1]
   have x2 : (HH.upd b2 (some (.cells (elC x) elT))) b2 = some (.cells [c0, c1, c2, c3, c4] elT) := by rw [hC]; exact Hp.upd_same
   have x3 : (HH.upd b2 (some (.cells (elC x) elT))) b3 = some (.cells [.int .i64 0] 3) := by rw [Hp.upd_ne (Ne.symm h23)]; exact hk3
   have x4 : (HH.upd b2 (some (.cells (elC x) elT))) b4 = some (.cells [.int .i64 0] 29) := by rw [Hp.upd_ne (Ne.symm h24)]; exact hk4
   have xsub : SubH H (HH.upd b2 (some (.cells (elC x) elT))) := SubH.over hsub g2
   generalize HH.upd b2 (some (.cells (elC x) elT)) = HX at x2 x3 x4 xsub ⊢
   have hwj := wsN_le (s.drop j)
   rw [List.length_drop] at hwj
   refine RG.nilS (AC.seq (AC.reg ?_))
   refine go1 ?_
   refine RG.callR .d rfl (space_ok (i := j) Hp.upd_same hj2 (by omega)) ?_
   rw [Hp.upd_upd]
   generalize hk : j + wsN (s.drop j) = k at hRE ⊢
   have hkl : k ≤ s.length := by omega
   refine RG.nilS (AC.seq (AC.drawVf [1, 7] rfl ?_))
   first | (refine VDf.pm 0 rfl rfl wh ?_) | (refine VDf.pv 0 rfl rfl (evP_ld wh hbb wh) ?_) | (refine VDf.pv 0 rfl rfl (evP_from wh wh (by omega)) ?_) | (refine VDf.pv 0 rfl rfl (evP_upto wh wh (by omega)) ?_) | (refine VDf.pv 0 rfl rfl (evP_addI wh wh (by omega)) ?_) | (refine VDf.pv 0 rfl rfl wh ?_)
   first | (refine VDf.pm 3 rfl rfl wh ?_) | (refine VDf.pv 3 rfl rfl (evP_ld wh hbb wh) ?_) | (refine VDf.pv 3 rfl rfl (evP_from wh wh (by omega)) ?_) | (refine VDf.pv 3 rfl rfl (evP_upto wh wh (by omega)) ?_) | (refine VDf.pv 3 rfl rfl (evP_addI wh wh (by omega)) ?_) | (refine VDf.pv 3 rfl rfl wh ?_)
   first | (refine VDf.pm 4 rfl rfl wh ?_) | (refine VDf.pv 4 rfl rfl (evP_ld wh hbb wh) ?_) | (refine VDf.pv 4 rfl rfl (evP_from wh wh (by omega)) ?_) | (refine VDf.pv 4 rfl rfl (evP_upto wh wh (by omega)) ?_) | (refine VDf.pv 4 rfl rfl (evP_addI wh wh (by omega)) ?_) | (refine VDf.pv 4 rfl rfl wh ?_)
   first | (refine VDf.pm 5 rfl rfl wh ?_) | (refine VDf.pv 5 rfl rfl (evP_ld wh hbb wh) ?_) | (refine VDf.pv 5 rfl rfl (evP_from wh wh (by omega)) ?_) | (refine VDf.pv 5 rfl rfl (evP_upto wh wh (by omega)) ?_) | (refine VDf.pv 5 rfl rfl (evP_addI wh wh (by omega)) ?_) | (refine VDf.pv 5 rfl rfl wh ?_)
   first | (refine VDf.pm 6 rfl rfl wh ?_) | (refine VDf.pv 6 rfl rfl (evP_ld wh hbb wh) ?_) | (refine VDf.pv 6 rfl rfl (evP_from wh wh (by omega)) ?_) | (refine VDf.pv 6 rfl rfl (evP_upto wh wh (by omega)) ?_) | (refine VDf.pv 6 rfl rfl (evP_addI wh wh (by omega)) ?_) | (refine VDf.pv 6 rfl rfl wh ?_)
   refine VDf.pe (K := fun d H' => d = .str (s.drop k) ∧ H' = HX.upd b (rd s k 91)) (Kp := fun _ _ => False) 1 rfl rfl (EFf.call rfl (left_ok Hp.upd_same hkl)) (fun _ _ _ h => h.elim) (fun d H' ⟨f1, f2⟩ => ?_)
   subst f1; subst f2
   refine ⟨stb, ?_⟩
   first | (refine VDf.pm 2 rfl rfl wh ?_) | (refine VDf.pv 2 rfl rfl (evP_ld wh hbb wh) ?_) | (refine VDf.pv 2 rfl rfl (evP_from wh wh (by omega)) ?_) | (refine VDf.pv 2 rfl rfl (evP_upto wh wh (by omega)) ?_) | (refine VDf.pv 2 rfl rfl (evP_addI wh wh (by omega)) ?_) | (refine VDf.pv 2 rfl rfl wh ?_)
   refine VDf.pe (K := fun d H' => (s.drop k == []) = true ∧ d = .tup [] ∧ H' = HX.upd b (rd s k 91)) (Kp := fun d H' => (s.drop k == []) = false ∧ d = fault k 6 ∧ H' = HX.upd b (rd s k 91)) 7 rfl rfl (EFf.call rfl (need_ok _ k 6 _)) (fun d fr' H' ⟨f1, f2, f3⟩ hfr => ?_) (fun d H' ⟨f1, f2, f3⟩ => ?_)
   · subst f2; subst f3
     refine bad (e := ((k : Nat), 6)) x2 x3 x4 xsub (by rw [hRE, f1, cond_false]) ?_ ?_ ?_
     all_goals exact (hfr _ (noDst rfl)).trans rfl
   subst f2; subst f3
   refine ⟨stb, ?_⟩
   refine VDf.pd rfl ?_
   rw [f1, cond_true] at hRE
   have l2 : (HX.upd b (rd s k 91)) b2 = some (.cells [c0, c1, c2, c3, c4] elT) := by rw [Hp.upd_ne hb2]; exact x2
   have l3 : (HX.upd b (rd s k 91)) b3 = some (.cells [.int .i64 0] 3) := by rw [Hp.upd_ne hb3]; exact x3
   have l4 : (HX.upd b (rd s k 91)) b4 = some (.cells [.int .i64 0] 29) := by rw [Hp.upd_ne hb4]; exact x4
   have lsub : SubH H (HX.upd b (rd s k 91)) := SubH.over xsub gb
   generalize HX.upd b (rd s k 91) = HY at l2 l3 l4 lsub ⊢
   refine AC.seq (AC.seq (AC.reg ?_))
   refine RG.ld (cs := [c0, c1, c2, c3, c4]) (ty := elT) .d rfl l2 rfl ?_
   have hck := Check_ok hG x hfit
   rw [hC] at hck
   refine RG.callP .d rfl hck ?_
   refine go1 ?_
   refine RG.nilS (AC.seq (AC.reg ?_))
   refine go1 ?_
   refine RG.p (d := .bool (!(checkF x == 0))) .d rfl ?_
   cases ce : checkF x == 0
   · rw [ce, cond_false] at hRE
     refine RG.nilS (AC.cond_t rfl (AC.seq (AC.reg ?_)))
     refine go1 ?_
     refine go1 ?_
     refine RG.sto (d := .agg Z5) (cs := [c0, c1, c2, c3, c4]) (ty := elT) .d rfl l2 rfl rfl rfl (by exact Nat.le_refl _) ?_
     refine RG.sto1 .d rfl (by rw [Hp.upd_ne (Ne.symm h23)]; exact l3) rfl rfl ?_
     refine RG.sto1 .d rfl (by rw [Hp.upd_ne (Ne.symm h34), Hp.upd_ne (Ne.symm h24)]; exact l4) rfl rfl ?_
     refine RG.nilS (AC.ret (goodR (t2 := elT) (t3 := 3) (t4 := 29) (x := El0) (a := 0) (e := checkF x) (by rw [hRF, hRE]) rfl rfl rfl ?_ ?_ ?_ el0_le (SubH.over (SubH.over (SubH.over lsub g2) g3) g4)))
     · rw [Hp.upd_ne h24, Hp.upd_ne h23]; exact Hp.upd_same
     · rw [Hp.upd_ne h34]; exact Hp.upd_same
     · exact Hp.upd_same
   · rw [ce, cond_true] at hRE
     refine RG.nilS (AC.cond_f rfl (AC.skip (AC.seq (AC.reg ?_))))
     refine RG.ld (cs := [c0, c1, c2, c3, c4]) (ty := elT) .d rfl l2 rfl ?_
     refine RG.sto (d := .agg [c0, c1, c2, c3, c4]) (cs := [c0, c1, c2, c3, c4]) (ty := elT) .d rfl l2 rfl rfl rfl (by exact Nat.le_refl _) ?_
     refine RG.sto1 .d rfl (by rw [Hp.upd_ne (Ne.symm h23)]; exact l3) rfl rfl ?_
     refine RG.sto1 .d rfl (by rw [Hp.upd_ne (Ne.symm h34), Hp.upd_ne (Ne.symm h24)]; exact l4) rfl rfl ?_
     refine RG.nilS (AC.ret (goodR (t2 := elT) (t3 := 3) (t4 := 29) (x := x) (a := 0) (e := 0) (by rw [hRF, hRE]) rfl rfl rfl ?_ ?_ ?_ (by rw [hC]; exact DLe.refl _) (SubH.over (SubH.over (SubH.over lsub g2) g3) g4)))
     · rw [Hp.upd_ne h24, Hp.upd_ne h23]; exact Hp.upd_same
     · rw [Hp.upd_ne h34]; exact Hp.upd_same
     · exact Hp.upd_same
 · obtain ⟨fn, c, h1, h2, h3, _⟩ := cFn_sound cF49
   exact ⟨fn, h1, by simp [h2], h3⟩
end Go.Run.Tryz
