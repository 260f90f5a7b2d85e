/- Part 13 of a proof: texts P6 P7. -/
import Derived.Test.YthmjdmianbobbaaGreatDoorWL
namespace Go.Run.Tryz
open Go Go.Run Go.RowKit
open Go.Proofs.Tryz (prog)
open Go.ChangeShapes Go.WideShapes Go.ChangeAt
variable {H0 : Type} {enc : TypeId × Value → H0}
theorem rows_of {α : Type} {Q : Nat → α → Prop} : ∀ (n : Nat), (∀ i, i < n → ∃ e, Q i e) → ∃ ks : List α, ks.length = n ∧ ∀ i e, ks[i]? = some e → Q i e
 | 0, _ => ⟨[], rfl, fun i e h => by simp at h⟩
 | n + 1, h => by
   obtain ⟨ks, h1, h2⟩ := rows_of n (fun i hi => h i (by omega))
   obtain ⟨e, he⟩ := h n (by omega)
   refine ⟨ks ++ [e], by simp [h1], fun i x hx => ?_⟩
   by_cases hi : i < n
   · rw [List.getElem?_append_left (by omega)] at hx
     exact h2 i x hx
   · rw [List.getElem?_append_right (by omega)] at hx
     have h3 : i - ks.length = 0 := by
      have := (List.getElem?_eq_some_iff.1 hx).1
      simp at this; omega
     rw [h3] at hx
     simp at hx
     subst hx
     have : i = n := by omega
     rw [this]; exact he
theorem read_sl {α : Type} {sz : Nat} (hsz : 0 < sz) (c : α → List DV) (hc : ∀ a, (c a).length = sz) {T ST : TypeId} {R : α → Prop} {W : World} {Z : Zn} (hZ : ∀ b, b < W.heap.size → Z b) (hST : (prog).underlying ST = some (.slice T)) (hcl : (prog).cellsOf T = sz) {bytes : Nat} (hby : (prog).bytesOf T = bytes) (hpos : 1 ≤ bytes) {n : Nat}
  (rd : ∀ (m : Nat) (cs : List Value) (x : DataW H0 × List MemPlace), DataW.trod enc prog W 0 (fun _ => true) true m T cs = some x → (x.1.weights prog T).all (· ≤ reachBytes) = true → ∃ a : α, R a ∧ CL W Z cs (c a))
  {v : Value} {x : DataW H0 × List MemPlace} (h : DataW.trod enc prog W 0 (fun _ => true) true n ST [v] = some x) (hw : (x.1.weights prog ST).all (· ≤ reachBytes) = true) :
  ∃ l : List α, l.length ≤ 140737488355328 ∧ (∀ a ∈ l, R a) ∧ v.oneCell' = true ∧ VR W (fun _ => none) Z v (.lst (l.flatMap c) l.length sz none) := by
 have hfl : ∀ l : List α, (l.flatMap c).length = l.length * sz := fun l => by
  induction l with
  | nil => simp
  | cons a l ih => rw [List.flatMap_cons, List.length_append, ih, hc, List.length_cons, Nat.add_mul, Nat.one_mul, Nat.add_comm]
 rcases DataW.trod_slice hST h with ⟨e4, _⟩ | ⟨a, len, cap, elems, rest, m, rfl, e4, hx4, _, hlc, _, hel, hcell, _, _⟩
 · cases e4
   exact ⟨[], by simp, fun k hk => by simp at hk, rfl, DLe.nils _ _ _ _ .nils⟩
 · cases e4
   rw [hcl] at hcell
   have hw2 : ((elems.length + rest.length) * bytes :: (DataW.weightsAll prog T (elems.map (·.1)) ++ DataW.weightsAll prog T (rest.map (·.1)))).all (· ≤ reachBytes) = true := by
    have e2 : (DataW.slice (elems.map (·.1)) (rest.map (·.1))).weights prog ST = ((elems.map (·.1)).length + (rest.map (·.1)).length) * bytes :: (DataW.weightsAll prog T (elems.map (·.1)) ++ DataW.weightsAll prog T (rest.map (·.1))) := by
     rw [DataW.weights, hST]
     dsimp only
     rw [hby]
    rw [List.length_map, List.length_map] at e2
    rw [hx4] at hw
    rw [← e2]
    exact hw
   simp only [List.all_cons, List.all_append, Bool.and_eq_true, decide_eq_true_eq] at hw2
   obtain ⟨w1, w2, _⟩ := hw2
   have hlen : len ≤ 140737488355328 := by
    have h0 : reachBytes = 140737488351232 := rfl
    have h1 : (elems.length + rest.length) * 1 ≤ (elems.length + rest.length) * bytes := Nat.mul_le_mul_left _ hpos
    omega
   obtain ⟨ks, k1, k2⟩ := rows_of (Q := fun i e => ∃ cs, W.cells? 0 (a.add (i * sz)) sz = some cs ∧ R e ∧ CL W Z cs (c e)) len (fun i hi => by
    have h1 := hcell i hi
    have h2 : elems[i]? = some (elems[i]'(by omega)) := List.getElem?_eq_getElem (by omega)
    rw [h2, Option.bind_eq_some_iff] at h1
    obtain ⟨cs, g1, g2⟩ := h1
    obtain ⟨e, j1, j2⟩ := rd m cs _ g2 (weights_all _ w2 _ (List.mem_map.2 ⟨_, List.getElem_mem (by omega), rfl⟩))
    exact ⟨e, cs, g1, j1, j2⟩)
   refine ⟨ks, by omega, fun k hk => ?_, rfl, ?_⟩
   · obtain ⟨i, hi⟩ := List.getElem?_of_mem hk
     obtain ⟨_, _, h, _⟩ := k2 i k hi
     exact h
   · rw [show (Value.slice (some a) len cap) = .slice (some a) ks.length cap by rw [k1]]
     have hcell' : ∀ j, j < len * sz → ∃ v, W.cell? ⟨a.block, a.off + j, none⟩ = some v ∧ a.block < W.heap.size ∧ v.oneCell' = true ∧ (j = 0 → a.spot = none) ∧ ∀ d, (ks.flatMap c)[j]? = some d → VR W (fun _ => none) Z v d := by
      intro j hj
      have hi : j / sz < len := Nat.div_lt_of_lt_mul (by rw [Nat.mul_comm]; exact hj)
      obtain ⟨k, hk⟩ : ∃ k, ks[j / sz]? = some k := ⟨_, List.getElem?_eq_getElem (by omega)⟩
      obtain ⟨cs, g1, _, g2, g3, g4⟩ := k2 _ k hk
      rw [hc] at g2
      obtain ⟨_, q1, q2⟩ := World.cells?_some g1
      have hr : j % sz < sz := Nat.mod_lt _ hsz
      have hr2 : j % sz < cs.length := by rw [g2]; exact hr
      have q3 := q2 (j % sz) hr
      have hjj : j / sz * sz + j % sz = j := Nat.div_add_mod' j sz
      have hcr : cs[j % sz]? = some (cs[j % sz]'hr2) := List.getElem?_eq_getElem (by omega)
      rw [hcr] at q3
      obtain ⟨r1, r2, r3⟩ := cell_norm q3
      have b1 := add_off a (j / sz * sz)
      have b2 := add_off (a.add (j / sz * sz)) (j % sz)
      have hb : ((a.add (j / sz * sz)).add (j % sz)).block = a.block := b2.1.trans b1.1
      have ho : ((a.add (j / sz * sz)).add (j % sz)).off = a.off + j := by rw [b2.2, b1.2, Nat.add_assoc, hjj]
      rw [hb, ho] at r1
      rw [hb] at r3
      refine ⟨_, r1, r3, g3 _ _ hcr, fun h0 => ?_, fun d hd => g4 _ _ d hcr ?_⟩
      · subst h0
        rw [Nat.zero_div, Nat.zero_mul, Nat.zero_mod] at r2
        exact r2
      · have he := rowD (sz := sz) c hc ks (j / sz) k hk
        rw [← he, List.getElem?_take_of_lt hr, List.getElem?_drop, hjj]
        exact hd
     have hspot : 0 < len * sz → a.spot = none := fun h => (hcell' 0 h).choose_spec.2.2.2.1 rfl
     refine .lst (some a) ks.length cap sz (ks.flatMap c) none (fun j => (W.cell? ⟨a.block, a.off + j, none⟩).getD undef) (hfl ks) (by omega) (fun j hj => ?_) (fun j hj => ?_) (fun j d hd => ?_) (fun b off e => by cases e)
     · rw [hfl, k1] at hj
       obtain ⟨v, h1, h2, _⟩ := hcell' j hj
       refine ⟨a, rfl, hspot (Nat.lt_of_le_of_lt (Nat.zero_le _) hj), ?_, .inl (hZ _ h2)⟩
       rw [h1]; rfl
     · rw [hfl, k1] at hj
       obtain ⟨v, h1, h2, h3, _⟩ := hcell' j hj
       rw [h1]; exact h3
     · have hj := (List.getElem?_eq_some_iff.1 hd).1
       rw [hfl, k1] at hj
       obtain ⟨v, h1, h2, h3, _, h4⟩ := hcell' j hj
       rw [h1]; exact h4 d hd
theorem listN2 {α : Type} {l : List α} (h : l.length = 2) : ∃ a0 a1, l = [a0, a1] := by
 match l, h with
 | [a0, a1], _ => exact ⟨a0, a1, rfl⟩
theorem listN6 {α : Type} {l : List α} (h : l.length = 6) : ∃ a0 a1 a2 a3 a4 a5, l = [a0, a1, a2, a3, a4, a5] := by
 match l, h with
 | [a0, a1, a2, a3, a4, a5], _ => exact ⟨a0, a1, a2, a3, a4, a5, rfl⟩
theorem listN7 {α : Type} {l : List α} (h : l.length = 7) : ∃ a0 a1 a2 a3 a4 a5 a6, l = [a0, a1, a2, a3, a4, a5, a6] := by
 match l, h with
 | [a0, a1, a2, a3, a4, a5, a6], _ => exact ⟨a0, a1, a2, a3, a4, a5, a6, rfl⟩
theorem cellsFm : (prog).cellsOf 115 = 2 := by kernel_rfl
theorem cellsPl : (prog).cellsOf 56 = 6 := by kernel_rfl
theorem cellsDv : (prog).cellsOf 28 = 7 := by kernel_rfl
theorem cellsFs : (prog).cellsOf 52 = 1 := by kernel_rfl
theorem cellsPs : (prog).cellsOf 26 = 1 := by kernel_rfl
theorem cellsIs : (prog).cellsOf 54 = 1 := by kernel_rfl
theorem bytesFm : (prog).bytesOf 115 = 32 := by kernel_rfl
theorem bytesPl : (prog).bytesOf 56 = 112 := by kernel_rfl
theorem bytesI : (prog).bytesOf 3 = 8 := by kernel_rfl
theorem read_frm {W : World} {Z : Zn} (n : Nat) (cs : List Value) (x : DataW H0 × List MemPlace) (h : DataW.trod enc prog W 0 (fun _ => true) true n 115 cs = some x) : ∃ f : Frm, True ∧ CL W Z cs [.str f.1, .str f.2] := by
 obtain ⟨xs, n, rfl, rfl, hl, hxl, hf⟩ := DataW.trod_struct Go.Proofs.Tryz.underlying115 h
 rw [cellsFm] at hl
 obtain ⟨c0, c1, rfl⟩ := listN2 hl
 obtain ⟨x0, x1, rfl⟩ := listN2 (show xs.length = 2 from hxl)
 have f0 : DataW.trod enc prog W 0 (fun _ => true) true n 9 (([c0, c1].drop 0).take ((prog).cellsOf 9)) = some x0 := hf 0 _ rfl
 have f1 : DataW.trod enc prog W 0 (fun _ => true) true n 9 (([c0, c1].drop 1).take ((prog).cellsOf 9)) = some x1 := hf 1 _ rfl
 rw [cellsS] at f0 f1
 obtain ⟨s1, e1, _, _⟩ := DataW.trod_string Go.Proofs.Tryz.underlying9 (show DataW.trod enc prog W 0 _ true n 9 [c0] = some x0 from f0)
 obtain ⟨s2, e2, _, _⟩ := DataW.trod_string Go.Proofs.Tryz.underlying9 (show DataW.trod enc prog W 0 _ true n 9 [c1] = some x1 from f1)
 cases e1; cases e2
 exact ⟨(s1.data.toList, s2.data.toList), trivial, .cons rfl (.str _ _ rfl) (.cons rfl (.str _ _ rfl) .nil)⟩
theorem flat_ints : ∀ l : List Int, l.flatMap (fun k : Int => [DV.int .i64 k]) = l.map (DV.int .i64)
 | [] => rfl
 | a :: l => by rw [List.flatMap_cons, List.map_cons, flat_ints l]; rfl
theorem read_int {W : World} {Z : Zn} (n : Nat) (cs : List Value) (x : DataW H0 × List MemPlace) (h : DataW.trod enc prog W 0 (fun _ => true) true n 3 cs = some x) : ∃ k : Int, True ∧ CL W Z cs [.int .i64 k] := by
 obtain ⟨p, e0, _, _⟩ := DataW.trod_int Go.Proofs.Tryz.underlying3 h
 subst e0
 exact ⟨p, trivial, .cons rfl (.int _ _) .nil⟩
theorem read_plc {W : World} {Z : Zn} (hZ : ∀ b, b < W.heap.size → Z b) (n : Nat) (cs : List Value) (x : DataW H0 × List MemPlace) (h : DataW.trod enc prog W 0 (fun _ => true) true n 56 cs = some x)
  (hw : (x.1.weights prog 56).all (· ≤ reachBytes) = true) : ∃ p : Plc, fitsP p ∧ CL W Z cs (plcC p) := by
 obtain ⟨xs, n, rfl, rfl, hl, hxl, hf⟩ := DataW.trod_struct Go.Proofs.Tryz.underlying56 h
 rw [cellsPl] at hl
 obtain ⟨c0, c1, c2, c3, c4, c5, rfl⟩ := listN6 hl
 obtain ⟨x0, x1, x2, x3, x4, x5, rfl⟩ := listN6 (show xs.length = 6 from hxl)
 have f0 : DataW.trod enc prog W 0 (fun _ => true) true n 9 (([c0, c1, c2, c3, c4, c5].drop 0).take ((prog).cellsOf 9)) = some x0 := hf 0 _ rfl
 have f1 : DataW.trod enc prog W 0 (fun _ => true) true n 9 (([c0, c1, c2, c3, c4, c5].drop 1).take ((prog).cellsOf 9)) = some x1 := hf 1 _ rfl
 have f2 : DataW.trod enc prog W 0 (fun _ => true) true n 3 (([c0, c1, c2, c3, c4, c5].drop 2).take ((prog).cellsOf 3)) = some x2 := hf 2 _ rfl
 have f3 : DataW.trod enc prog W 0 (fun _ => true) true n 52 (([c0, c1, c2, c3, c4, c5].drop 3).take ((prog).cellsOf 52)) = some x3 := hf 3 _ rfl
 have f4 : DataW.trod enc prog W 0 (fun _ => true) true n 52 (([c0, c1, c2, c3, c4, c5].drop 4).take ((prog).cellsOf 52)) = some x4 := hf 4 _ rfl
 have f5 : DataW.trod enc prog W 0 (fun _ => true) true n 54 (([c0, c1, c2, c3, c4, c5].drop 5).take ((prog).cellsOf 54)) = some x5 := hf 5 _ rfl
 rw [cellsS] at f0 f1
 rw [cellsI] at f2
 rw [cellsFs] at f3 f4
 rw [cellsIs] at f5
 obtain ⟨s1, e1, _, _⟩ := DataW.trod_string Go.Proofs.Tryz.underlying9 (show DataW.trod enc prog W 0 _ true n 9 [c0] = some x0 from f0)
 obtain ⟨s2, e2, _, _⟩ := DataW.trod_string Go.Proofs.Tryz.underlying9 (show DataW.trod enc prog W 0 _ true n 9 [c1] = some x1 from f1)
 obtain ⟨p, e3, _, _⟩ := DataW.trod_int Go.Proofs.Tryz.underlying3 (show DataW.trod enc prog W 0 _ true n 3 [c2] = some x2 from f2)
 cases e1; cases e2; cases e3
 have e : (DataW.agg (List.map (·.1) [x0, x1, x2, x3, x4, x5])).weights prog 56 = DataW.weightsEach prog [9, 9, 3, 52, 52, 54] [x0.1, x1.1, x2.1, x3.1, x4.1, x5.1] := by
  rw [DataW.weights, Go.Proofs.Tryz.underlying56]; rfl
 rw [e] at hw
 simp only [DataW.weightsEach, List.all_append, Bool.and_eq_true] at hw
 obtain ⟨_, _, _, w3, w4, w5, _⟩ := hw
 obtain ⟨l3, a3, _, b3, v3⟩ := read_sl (by decide) (fun f : Frm => [DV.str f.1, DV.str f.2]) (fun _ => rfl) hZ Go.Proofs.Tryz.underlying52 cellsFm bytesFm (by decide) (fun m cs x h _ => read_frm m cs x h) (show DataW.trod enc prog W 0 (fun _ => true) true n 52 [c3] = some x3 from f3) w3
 obtain ⟨l4, a4, _, b4, v4⟩ := read_sl (by decide) (fun f : Frm => [DV.str f.1, DV.str f.2]) (fun _ => rfl) hZ Go.Proofs.Tryz.underlying52 cellsFm bytesFm (by decide) (fun m cs x h _ => read_frm m cs x h) (show DataW.trod enc prog W 0 (fun _ => true) true n 52 [c4] = some x4 from f4) w4
 obtain ⟨l5, a5, _, b5, v5⟩ := read_sl (by decide) (fun k : Int => [DV.int .i64 k]) (fun _ => rfl) hZ Go.Proofs.Tryz.underlying54 cellsI bytesI (by decide) (fun m cs x h _ => read_int m cs x h) (show DataW.trod enc prog W 0 (fun _ => true) true n 54 [c5] = some x5 from f5) w5
 have hm := flat_ints l5
 rw [hm] at v5
 refine ⟨⟨s1.data.toList, s2.data.toList, p, l3, l4, l5⟩, ⟨a3, a4, a5⟩, ?_⟩
 exact .cons rfl (.str _ _ rfl) (.cons rfl (.str _ _ rfl) (.cons rfl (.int _ _) (.cons b3 v3 (.cons b4 v4 (.cons b5 v5 .nil)))))
theorem read_dvc {W : World} {Z : Zn} (hZ : ∀ b, b < W.heap.size → Z b) (n : Nat) (cs : List Value) (x : DataW H0 × List MemPlace) (h : DataW.trod enc prog W 0 (fun _ => true) true n 28 cs = some x)
  (hw : (x.1.weights prog 28).all (· ≤ reachBytes) = true) : ∃ d : Dvc, fitsD d ∧ CL W Z cs (dvcC d) := by
 obtain ⟨xs, n, rfl, rfl, hl, hxl, hf⟩ := DataW.trod_struct Go.Proofs.Tryz.underlying28 h
 rw [cellsDv] at hl
 obtain ⟨c0, c1, c2, c3, c4, c5, c6, rfl⟩ := listN7 hl
 obtain ⟨x0, x1, x2, x3, x4, x5, x6, rfl⟩ := listN7 (show xs.length = 7 from hxl)
 have f0 : DataW.trod enc prog W 0 (fun _ => true) true n 9 (([c0, c1, c2, c3, c4, c5, c6].drop 0).take ((prog).cellsOf 9)) = some x0 := hf 0 _ rfl
 have f1 : DataW.trod enc prog W 0 (fun _ => true) true n 9 (([c0, c1, c2, c3, c4, c5, c6].drop 1).take ((prog).cellsOf 9)) = some x1 := hf 1 _ rfl
 have f2 : DataW.trod enc prog W 0 (fun _ => true) true n 9 (([c0, c1, c2, c3, c4, c5, c6].drop 2).take ((prog).cellsOf 9)) = some x2 := hf 2 _ rfl
 have f3 : DataW.trod enc prog W 0 (fun _ => true) true n 9 (([c0, c1, c2, c3, c4, c5, c6].drop 3).take ((prog).cellsOf 9)) = some x3 := hf 3 _ rfl
 have f4 : DataW.trod enc prog W 0 (fun _ => true) true n 9 (([c0, c1, c2, c3, c4, c5, c6].drop 4).take ((prog).cellsOf 9)) = some x4 := hf 4 _ rfl
 have f5 : DataW.trod enc prog W 0 (fun _ => true) true n 4 (([c0, c1, c2, c3, c4, c5, c6].drop 5).take ((prog).cellsOf 4)) = some x5 := hf 5 _ rfl
 have f6 : DataW.trod enc prog W 0 (fun _ => true) true n 26 (([c0, c1, c2, c3, c4, c5, c6].drop 6).take ((prog).cellsOf 26)) = some x6 := hf 6 _ rfl
 rw [cellsS] at f0 f1 f2 f3 f4
 rw [cellsB] at f5
 rw [cellsPs] at f6
 obtain ⟨s0, e0, _, _⟩ := DataW.trod_string Go.Proofs.Tryz.underlying9 (show DataW.trod enc prog W 0 _ true n 9 [c0] = some x0 from f0)
 obtain ⟨s1, e1, _, _⟩ := DataW.trod_string Go.Proofs.Tryz.underlying9 (show DataW.trod enc prog W 0 _ true n 9 [c1] = some x1 from f1)
 obtain ⟨s2, e2, _, _⟩ := DataW.trod_string Go.Proofs.Tryz.underlying9 (show DataW.trod enc prog W 0 _ true n 9 [c2] = some x2 from f2)
 obtain ⟨s3, e3, _, _⟩ := DataW.trod_string Go.Proofs.Tryz.underlying9 (show DataW.trod enc prog W 0 _ true n 9 [c3] = some x3 from f3)
 obtain ⟨s4, e4, _, _⟩ := DataW.trod_string Go.Proofs.Tryz.underlying9 (show DataW.trod enc prog W 0 _ true n 9 [c4] = some x4 from f4)
 obtain ⟨o, e5, _⟩ := DataW.trod_bool Go.Proofs.Tryz.underlying4 (show DataW.trod enc prog W 0 _ true n 4 [c5] = some x5 from f5)
 cases e0; cases e1; cases e2; cases e3; cases e4; cases e5
 have e : (DataW.agg (List.map (·.1) [x0, x1, x2, x3, x4, x5, x6])).weights prog 28 = DataW.weightsEach prog [9, 9, 9, 9, 9, 4, 26] [x0.1, x1.1, x2.1, x3.1, x4.1, x5.1, x6.1] := by
  rw [DataW.weights, Go.Proofs.Tryz.underlying28]; rfl
 rw [e] at hw
 simp only [DataW.weightsEach, List.all_append, Bool.and_eq_true] at hw
 obtain ⟨_, _, _, _, _, _, w6, _⟩ := hw
 obtain ⟨l6, a6, r6, b6, v6⟩ := read_sl (by decide) plcC (fun _ => rfl) hZ Go.Proofs.Tryz.underlying26 cellsPl bytesPl (by decide) (fun m cs x h hw => read_plc hZ m cs x h hw) (show DataW.trod enc prog W 0 (fun _ => true) true n 26 [c6] = some x6 from f6) w6
 refine ⟨⟨s0.data.toList, s1.data.toList, s2.data.toList, s3.data.toList, s4.data.toList, o, l6⟩, ⟨a6, r6⟩, ?_⟩
 exact .cons rfl (.str _ _ rfl) (.cons rfl (.str _ _ rfl) (.cons rfl (.str _ _ rfl) (.cons rfl (.str _ _ rfl) (.cons rfl (.str _ _ rfl) (.cons rfl (.bool _) (.cons b6 v6 .nil))))))
theorem own : ownKnob (prog).godebug = none := by kernel_rfl
theorem laidOut : laidOutB prog = true := by kernel_rfl
theorem firstZ : ((List.range 256).all fun r => Pinned.utf8FirstZ.getD r 0 == Lib.firstT r) = true := by kernel_rfl
theorem firstL : Pinned.utf8FirstZ.length = 256 := by kernel_rfl
abbrev laidL : List (String × DataW Unit) := Go.Proofs.YthmjdmianbobbaaGreatDoor.Rows.devinfBackRow.laid
theorem first_cell {W : World} (h : laidMetH prog laidL W) (r : Nat) (hr : r < 256) : W.cell? ⟨0, r, none⟩ = some (.int .u8 (Lib.firstT r : Nat)) := by
 rw [MakeChecks.laidMetH_plain _ _ _ (by kernel_rfl)] at h
 obtain ⟨ps, ⟨_, _, _, _, _, _, _, _, _, _, ⟨_, _, _, _, _, _, _, _, _, _, ⟨_, _, _, _, _, _, _, _, _, _, ⟨g, t, cs, fuel, p, q, hg, ht, hv, hd, _, _⟩, _⟩, _⟩, _⟩, _, _⟩ := h
 obtain rfl := Option.some.inj ((show (prog).globalNamed "unicode/utf8.first" = some 0 by kernel_rfl).symm.trans hg)
 obtain rfl := Option.some.inj ((show ((prog).globals[0]?).map (·.type) = some 180 by kernel_rfl).symm.trans ht)
 obtain ⟨xs, m, _, ex, _, hl, hel⟩ := DataW.trod_array Go.Proofs.Tryz.underlying180 hd
 have c5 : (prog).cellsOf 5 = 1 := by kernel_rfl
 have hE := hel r hr
 rw [c5, Nat.mul_one, List.getElem?_eq_getElem (by omega)] at hE
 obtain ⟨z, e1, e2, _⟩ := DataW.trod_int Go.Proofs.Tryz.underlying5 hE
 have e3 : (xs.map (·.1)) = Pinned.utf8FirstZ.map fun n => .lit (.int .u8 n) := (DataW.agg.inj (Prod.mk.inj ex).1).symm
 have e4 : (xs.map (·.1))[r]? = (Pinned.utf8FirstZ.map fun n => (DataW.lit (.int .u8 ((n : Nat) : Int)) : DataW Unit))[r]? := by rw [e3]
 rw [List.getElem?_map, List.getElem?_map, List.getElem?_eq_getElem (by omega : r < xs.length), List.getElem?_eq_getElem (by rw [firstL]; exact hr : r < Pinned.utf8FirstZ.length), e2] at e4
 have hz : z = (Lib.firstT r : Nat) := by
  simp only [Option.map_some, Option.some.injEq, DataW.lit.injEq, Lit.int.injEq, true_and] at e4
  have := List.all_eq_true.1 firstZ r (List.mem_range.2 hr)
  rw [List.getD, List.getElem?_eq_getElem (by rw [firstL]; exact hr : r < Pinned.utf8FirstZ.length)] at this
  rw [e4]
  exact congrArg (fun n : Nat => (n : Int)) (by simpa using this)
 rw [World.var?_cell hg hv r, ← hz]
 have : cs.toList[r]? = some (.int .u8 z) := by
  have h0 : ((cs.toList.drop r).take 1)[0]? = some (.int .u8 z) := by rw [e1]; rfl
  simpa using h0
 simpa using this
theorem accD : (Go.Proofs.YthmjdmianbobbaaGreatDoor.Rows.laid_unicode_utf8_acceptRanges : DataW Unit) = .agg ((List.range 16).map fun i => .agg [.lit (.int .u8 (Lib.accLo i : Nat)), .lit (.int .u8 (Lib.accHi i : Nat))]) := by kernel_rfl
theorem acc_cell {W : World} (h : laidMetH prog laidL W) (i : Nat) (hi : i < 16) : W.cell? ⟨1, 2 * i, none⟩ = some (.int .u8 (Lib.accLo i : Nat)) ∧ W.cell? ⟨1, 2 * i + 1, none⟩ = some (.int .u8 (Lib.accHi i : Nat)) := by
 rw [MakeChecks.laidMetH_plain _ _ _ (by kernel_rfl)] at h
 obtain ⟨ps, ⟨g, t, cs, fuel, p, q, hg, ht, hv, hd, _, _⟩, _, _⟩ := h
 obtain rfl := Option.some.inj ((show (prog).globalNamed "unicode/utf8.acceptRanges" = some 1 by kernel_rfl).symm.trans hg)
 obtain rfl := Option.some.inj ((show ((prog).globals[1]?).map (·.type) = some 183 by kernel_rfl).symm.trans ht)
 rw [accD] at hd
 obtain ⟨xs, m, _, ex, _, hl, hel⟩ := DataW.trod_array Go.Proofs.Tryz.underlying183 hd
 have c90 : (prog).cellsOf 182 = 2 := by kernel_rfl
 have c5 : (prog).cellsOf 5 = 1 := by kernel_rfl
 have hE := hel i hi
 rw [c90, List.getElem?_eq_getElem (by omega)] at hE
 obtain ⟨ys, n, rfl, ey, hcl, hyl, hf⟩ := DataW.trod_struct Go.Proofs.Tryz.underlying182 hE
 have hyl2 : ys.length = 2 := hyl
 match ys, hyl2 with
 | [y0, y1], _ =>
 have f0 : DataW.trod _ prog W 0 _ _ n 5 ((((cs.toList.drop (i * 2)).take 2).drop 0).take ((prog).cellsOf 5)) = some y0 := hf 0 _ rfl
 have f1 : DataW.trod _ prog W 0 _ _ n 5 ((((cs.toList.drop (i * 2)).take 2).drop 1).take ((prog).cellsOf 5)) = some y1 := hf 1 _ rfl
 rw [c5] at f0 f1
 obtain ⟨z0, a1, a2, _⟩ := DataW.trod_int Go.Proofs.Tryz.underlying5 f0
 obtain ⟨z1, b1, b2, _⟩ := DataW.trod_int Go.Proofs.Tryz.underlying5 f1
 have e3 : (xs.map (·.1)) = (List.range 16).map fun i => .agg [.lit (.int .u8 (Lib.accLo i : Nat)), .lit (.int .u8 (Lib.accHi i : Nat))] := (DataW.agg.inj (Prod.mk.inj ex).1).symm
 have e4 : (xs.map (·.1))[i]? = some (.agg [.lit (.int .u8 (Lib.accLo i : Nat)), .lit (.int .u8 (Lib.accHi i : Nat))]) := by rw [e3]; simp [hi]
 rw [List.getElem?_map, List.getElem?_eq_getElem (by omega : i < xs.length), ey, a2, b2] at e4
 simp only [Option.map_some, Option.some.injEq, List.map_cons, List.map_nil, DataW.agg.injEq, List.cons.injEq, DataW.lit.injEq, Lit.int.injEq, true_and, and_true] at e4
 obtain ⟨r0, r1⟩ := e4
 subst r0; subst r1
 rw [World.var?_cell hg hv, World.var?_cell hg hv]
 have k0 : ((((cs.toList.drop (i * 2)).take 2).drop 0).take 1)[0]? = some (.int .u8 (Lib.accLo i : Nat)) := by rw [a1]; rfl
 have k1 : ((((cs.toList.drop (i * 2)).take 2).drop 1).take 1)[0]? = some (.int .u8 (Lib.accHi i : Nat)) := by rw [b1]; rfl
 rw [show i * 2 = 2 * i by omega] at k0 k1
 simp only [List.getElem?_take, List.getElem?_drop, Nat.add_zero, Nat.lt_one_iff, if_true, Nat.zero_lt_succ] at k0 k1
 exact ⟨by simpa using k0, by simpa using k1⟩
def spZ (c : Nat) : Int := bif isSp (UInt8.ofNat c) then 1 else 0
theorem spD : (Go.Proofs.YthmjdmianbobbaaGreatDoor.Rows.laid_strings_asciiSpace : DataW Unit) = .agg ((List.range 256).map fun c => .lit (.int .u8 (spZ c))) := by kernel_rfl
theorem sp_cell {W : World} (h : laidMetH prog laidL W) (r : Nat) (hr : r < 256) : W.cell? ⟨3, r, none⟩ = some (.int .u8 (spZ r)) := by
 rw [MakeChecks.laidMetH_plain _ _ _ (by kernel_rfl)] at h
 obtain ⟨ps, ⟨_, _, _, _, _, _, _, _, _, _, ⟨_, _, _, _, _, _, _, _, _, _, ⟨g, t, cs, fuel, p, q, hg, ht, hv, hd, _, _⟩, _⟩, _⟩, _, _⟩ := h
 obtain rfl := Option.some.inj ((show (prog).globalNamed "strings.asciiSpace" = some 3 by kernel_rfl).symm.trans hg)
 obtain rfl := Option.some.inj ((show ((prog).globals[3]?).map (·.type) = some 180 by kernel_rfl).symm.trans ht)
 rw [spD] at hd
 obtain ⟨xs, m, _, ex, _, hl, hel⟩ := DataW.trod_array Go.Proofs.Tryz.underlying180 hd
 have c5 : (prog).cellsOf 5 = 1 := by kernel_rfl
 have hE := hel r hr
 rw [c5, Nat.mul_one, List.getElem?_eq_getElem (by omega)] at hE
 obtain ⟨z, e1, e2, _⟩ := DataW.trod_int Go.Proofs.Tryz.underlying5 hE
 have e3 : (xs.map (·.1)) = (List.range 256).map fun c => .lit (.int .u8 (spZ c)) := (DataW.agg.inj (Prod.mk.inj ex).1).symm
 have e4 : (xs.map (·.1))[r]? = some (.lit (.int .u8 (spZ r))) := by rw [e3]; simp [hr]
 rw [List.getElem?_map, List.getElem?_eq_getElem (by omega : r < xs.length), e2] at e4
 have hz : z = spZ r := by
  simp only [Option.map_some, Option.some.injEq, DataW.lit.injEq, Lit.int.injEq, true_and] at e4
  exact e4
 rw [World.var?_cell hg hv r, ← hz]
 have : cs.toList[r]? = some (.int .u8 z) := by
  have h0 : ((cs.toList.drop r).take 1)[0]? = some (.int .u8 z) := by rw [e1]; rfl
  simpa using h0
 simpa using this
def G0 (m : Int) : Gl := fun g => if g = 2 then some [.int .i64 m] else if g = 0 then some ((List.range 256).map fun c => .int .u8 (Lib.firstT c : Nat)) else
 if g = 1 then some ((List.range 16).flatMap fun i => [.int .u8 (Lib.accLo i : Nat), .int .u8 (Lib.accHi i : Nat)]) else if g = 3 then some spT else none
theorem G0_ok (m : Int) : GOS (G0 m) := ⟨⟨⟨m, rfl⟩, rfl, rfl⟩, rfl⟩
theorem spT_get (j : Nat) (d : DV) (h : spT[j]? = some d) : j < 256 ∧ d = .int .u8 (spZ j) := by
 have hj : j < 256 := by
  have := (List.getElem?_eq_some_iff.1 h).1
  simpa [spT] using this
 refine ⟨hj, ?_⟩
 rw [spT, List.getElem?_map, List.getElem?_range hj, Option.map_some, Option.some.injEq] at h
 rw [← h]; rfl
theorem glob_of {W : World} {Z : Zn} (hZ : ∀ b, b < W.heap.size → Z b) {g : Nat} {cs : List DV} (h : ∀ (j : Nat) (d : DV), cs[j]? = some d → ∃ k n, d = .int k n ∧ W.cell? ⟨g, j, none⟩ = some (.int k n)) : VR W (fun _ => none) Z (.pointer (some ⟨g, 0, none⟩)) (.cptr cs) := by
 refine .cptr ⟨g, 0, none⟩ cs (fun j => (W.cell? ⟨g, 0 + j, none⟩).getD undef) rfl (fun j hj => ?_) (fun j hj => ?_) (fun j d hd => ?_)
 · obtain ⟨k, n, _, h2⟩ := h j _ (List.getElem?_eq_getElem hj)
   have h3 := (cell_norm h2).2.2
   rw [Nat.zero_add, h2]
   exact ⟨rfl, .inl (hZ _ h3)⟩
 · obtain ⟨k, n, _, h2⟩ := h j _ (List.getElem?_eq_getElem hj)
   rw [Nat.zero_add, h2]; rfl
 · obtain ⟨k, n, h1, h2⟩ := h j d hd
   rw [Nat.zero_add, h2, h1]
   exact .int _ _
theorem HR0 {W : World} (hL : laidMetH prog laidL W) (hsh : W.ShapedOpen prog) : ∃ m, HR (G0 m) W (fun _ => none) (fun b => b < W.heap.size) := by
 obtain ⟨m, hm⟩ : ∃ m, W.cell? ⟨2, 0, none⟩ = some (.int .i64 m) := Go.Proofs.cell_of_shapedOpen_int (t := 3) (zero := #[.int .i64 0]) hsh (of_decide_eq_true (by kernel_rfl)) (by kernel_rfl) (by kernel_rfl) (by kernel_rfl) (by kernel_rfl) (by kernel_rfl)
 refine ⟨m, fun b o h => (by cases h), fun b h => h, fun b o h => (by cases h), fun g cs hg => glob_of (fun b h => h) fun j d hd => ?_⟩
 unfold G0 at hg
 split at hg
 · rename_i e; subst e; cases hg
   cases j with
   | zero => simp at hd; subst hd; exact ⟨_, _, rfl, hm⟩
   | succ j => simp at hd
 · split at hg
   · rename_i e; subst e; cases hg
     have hj : j < 256 := by have := (List.getElem?_eq_some_iff.1 hd).1; simpa using this
     simp [hj] at hd
     subst hd
     exact ⟨_, _, rfl, first_cell hL j hj⟩
   · split at hg
     · rename_i e; subst e; cases hg
       have hj : j < 32 := by
        have := (List.getElem?_eq_some_iff.1 hd).1
        exact (show j < (List.map (fun _ => 2) (List.range 16)).sum by simpa using this)
       have hi : j / 2 < 16 := by omega
       obtain ⟨a1, a2⟩ := acc_at (j / 2) hi
       obtain ⟨c1, c2⟩ := acc_cell hL (j / 2) hi
       rcases Nat.mod_two_eq_zero_or_one j with h | h
       · have e : 2 * (j / 2) = j := by omega
         rw [e] at a1 c1
         rw [a1] at hd; cases hd
         exact ⟨_, _, rfl, c1⟩
       · have e : 2 * (j / 2) + 1 = j := by omega
         rw [e] at a2 c2
         rw [a2] at hd; cases hd
         exact ⟨_, _, rfl, c2⟩
     · split at hg
       · rename_i e; subst e; cases hg
         obtain ⟨hj, rfl⟩ := spT_get j d hd
         exact ⟨_, _, rfl, sp_cell hL j hj⟩
       · cases hg
section
variable {H : Type} {enc : TypeId × Value → H}
theorem wrapped {a : Assume} {C : Checked} {os : Os} {f : FuncId} {fn : Func} {s : ChangeSpec} {conds : List PathCond} {apart fresh handsOn again : Bool} {X : World → Array Value → Prop}
  (hX : ∀ (w w' : World) (args : Array Value), w.heap = w'.heap → X w args → X w' args)
  (own : ownKnob C.prog.godebug = none) (started : os.Started) (noInit : C.prog.inits.idxOf? f = none) (hfn : C.prog.funcs[f]? = some fn)
  (witness : ∃ (w : World) (tape : Tape) (i : Input), w.os = os ∧ (w.forCall tape i).Shaped C.prog ∧ i.vars = [] ∧ Input.okWide C.prog (w.forCall tape i) .any w.heap.size f i ∧
   ((s.pre enc C.prog fn conds apart (w.forCall tape i).memory i.args ∧ X (w.forCall tape i).memory i.args) ∧ sizedMet enc C.prog fn (OpenSpec.ofChange s) apart (w.forCall tape i).memory i.args) ∧ a.holds C.prog (lone (Frame.enter C.prog f i.args .normal) [] (w.forCall tape i)))
  (contract : ∀ (W : World) (base : Nat) (args : Array Value) (ds gs : List (DataW H)) (before : List MemPlace),
   (∀ (j : Nat) t v, fn.params[j]? = some t → args[j]? = some v → Value.okWide C.prog W .any base t v) →
   DataW.Whole enc C.prog fn.params.toList s.vars apart W args.toList ds gs before →
   (DataW.weightsEach C.prog (fn.params.toList ++ s.plain.varTypes C.prog) (ds ++ gs)).all (· ≤ reachBytes) = true → X W args → W.ShapedOpen C.prog →
   Calls C.prog f args W fun e W' => ∃ v, e = .returned v ∧ s.post enc C.prog fn apart fresh handsOn again W args v W') :
  ReturnsInHanded a C os f .any (fun w args => (s.pre enc C.prog fn conds apart w args ∧ X w args) ∧ sizedMet enc C.prog fn (OpenSpec.ofChange s) apart w args) (s.post enc C.prog fn apart fresh handsOn again) := by
 refine returnsInHanded_of_calls own started noInit witness ?_
 intro w tape i _ hsh _ hok hpre hholds
 obtain ⟨_, _, _, fn', hfn', _, _, _, _, hval⟩ := hok
 have e : fn' = fn := Option.some.inj (hfn'.symm.trans hfn)
 subst e
 obtain ⟨⟨⟨ds, gs, before, hw, hc⟩, hx⟩, hz⟩ := hpre
 have hw' := DataW.Whole.of_heap (w' := w.forCall tape i) (by rfl) hw
 refine (contract (w.forCall tape i) w.heap.size i.args ds gs before hval hw' (hz.weights hw) (hX _ _ _ (by rfl) hx) hsh).mono fun e W' ⟨v, he, hp⟩ => ?_
 subst he
 exact ChangeSpec.post_blind hp
end
set_option maxRecDepth 100000 in
theorem back_lifted (os : Os) (started : os.Started) (H : Type) (enc : TypeId × Value → H) :
  ReturnsInHanded {} Go.Proofs.Tryz.checked os 5 .any (fun w args => (Go.Proofs.YthmjdmianbobbaaGreatDoor.Rows.devinfBackSpec.pre enc prog Go.Proofs.Tryz.f5 [] false w args ∧ laidMetH prog laidL w) ∧ sizedMet enc prog Go.Proofs.Tryz.f5 (OpenSpec.ofChange Go.Proofs.YthmjdmianbobbaaGreatDoor.Rows.devinfBackSpec) false w args)
   (Go.Proofs.YthmjdmianbobbaaGreatDoor.Rows.devinfBackSpec.post enc prog Go.Proofs.Tryz.f5 false true false false) := by
 refine wrapped (C := Go.Proofs.Tryz.checked) (X := fun w _ => laidMetH prog laidL w) (fun _ _ _ hh h => h.of_heap hh) own started (by kernel_rfl) Go.Proofs.Tryz.func5
  (ChangeSpec.witness_shaped (enc := enc) (C := Go.Proofs.Tryz.checked) (os := os) (X := fun w _ => laidMetH prog laidL w) false (World.laidAll prog os laidL) #[.agg #[.string ⟨#[]⟩, .string ⟨#[]⟩, .string ⟨#[]⟩, .string ⟨#[]⟩, .string ⟨#[]⟩, .bool false, .slice none 0 0]] 8 (World.laidAll_os _ _ _)
   (World.shaped_of_ZipB (by kernel_rfl) (by kernel_rfl)) (by kernel_rfl) (by kernel_rfl) (by kernel_rfl)
   (by rw [MakeChecks.laidMetH_plain _ _ _ (by kernel_rfl)]; exact laidMet_laidAll _ (by kernel_rfl) (by kernel_rfl))) ?_
 intro W base args ds gs before hval0 hW hwt hL hsh
 have hval : ∀ (j : Nat) t v, Go.Proofs.Tryz.f5.params[j]? = some t → args[j]? = some v → Value.okWide prog W .any base t v := hval0
 have hW' := hW
 obtain ⟨p, q, hA0, hV, rfl, _, _⟩ := hW
 have hA : DataW.TrodAll enc prog W 0 (fun _ => true) true Go.Proofs.Tryz.f5.params.toList args.toList ds p := hA0
 rw [Go.Proofs.Tryz.params5] at hA hval hwt
 obtain ⟨v0, d0, rfl, rfl, h0⟩ := trodAll_one hA
 obtain ⟨rfl, rfl⟩ := trodVars_none hV
 obtain ⟨vs, rfl, _⟩ := okWide_struct Go.Proofs.Tryz.underlying28 (hval 0 28 v0 rfl rfl)
 have h0k := h0
 obtain ⟨fuel, hf⟩ := h0
 clear hA0 hval0
 simp only [List.append_nil] at hW'
 have hlt : ∀ x ∈ p, x.block < W.heap.size := fun x hx => by simpa using hW'.lt x hx
 have hwe : (d0.weights prog 28).all (· ≤ reachBytes) = true := by
  have e : DataW.weightsEach prog ([28] ++ []) ([d0] ++ []) = d0.weights prog 28 := by
   show d0.weights prog 28 ++ [] = _
   rw [List.append_nil]
  rw [← e]; exact hwt
 obtain ⟨el, hfit, hcl⟩ := read_dvc (Z := fun b => b < W.heap.size) (fun b h => h) fuel _ _ hf hwe
 have hcl' : CL W (fun b => b < W.heap.size) vs.toList (dvcC el) := hcl
 obtain ⟨m, hr⟩ := HR0 hL hsh
 have hv : VR W (fun _ => none) (fun b => b < W.heap.size) (.agg vs) (.agg (dvcC el)) := by
  exact .agg _ _ (by simpa using hcl'.1) (fun j v hj => hcl'.2.1 j v (by simpa using hj)) (fun j v d hj hd => hcl'.2.2 j v d (by simpa using hj) hd)
 refine ((DevinfBack_ok (G0_ok m) el hfit (fun _ => none)).2 W _ #[.agg vs] hr rfl (fun j v d hj hd => ?_)).mono fun e W' he => ?_
 · match j with
   | 0 => simp at hj hd; subst hj; subst hd; exact hv
   | j + 1 => simp at hd
 · cases e with
   | returned v =>
     obtain ⟨d, H', Z', ⟨rfl, rfl⟩, hvd, _, hx⟩ := he
     have hnx : Below W.heap.size W W' := ⟨hx.os, hx.tape, hx.output, hx.size, fun k hk => (hx.imm k hk).2.2⟩
     have hvv : v = .bool true := hvd.bool_inv
     subst hvv
     have hargs : DataW.Trod enc prog W' 0 (fun b => decide (b < W.heap.size)) true 28 (.agg vs) d0 p := Below.trod laidOut (by kernel_rfl) (of_decide_eq_true (by kernel_rfl)) h0k hnx hlt
     exact ⟨_, rfl, _, _, _, [], _, [], hW', trodAll_mk1 (shut_bool Go.Proofs.Tryz.underlying4 true), trodAll_mk1 hargs, rfl, hnx.frame _, fun h => by cases h⟩
   | panicked ch => obtain ⟨_, _, _, _, _, h, _⟩ := he; exact h.elim
   | outgrown => exact he.elim
theorem back_holds : Go.Proofs.YthmjdmianbobbaaGreatDoor.Rows.DevinfBackSaid :=
 OpenClaim.holds_of_wide 5 Go.Proofs.Tryz.f5 rfl rfl rfl rfl rfl rfl rfl ⟨rfl, rfl, rfl, rfl, rfl⟩ rfl rfl rfl rfl rfl (by kernel_rfl) Go.Proofs.Tryz.func5 (by kernel_rfl)
  (of_decide_eq_true (by kernel_rfl)) (by unfold Func.isWrapper; first | (rw [if_pos (by decide +kernel)]; kernel_rfl) | (rw [if_neg (by decide +kernel)]; exact ⟨rfl, rfl⟩))
  (fun os started H enc _ => back_lifted os started H enc)
end Go.Run.Tryz
