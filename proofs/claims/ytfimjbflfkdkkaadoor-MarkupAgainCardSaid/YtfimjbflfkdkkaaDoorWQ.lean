/- Proofs. -/
import Derived.Test.YtfimjbflfkdkkaaDoorWN
import Derived.Test.YtfimjbflfkdkkaaDoorWP
/- The row of MarkupAgain. -/
namespace Go.Run.Tryd
open Go Go.Run Go.RowKit
open Go.ChangeShapes Go.WideShapes Go.ChangeAt

set_option maxRecDepth 100000 in
theorem again_lifted (os : Os) (started : os.Started) (H : Type) (enc : TypeId × Value → H) :
    ReturnsInHanded {} Go.Proofs.Tryd.checked os 4 .any (fun w args => (Go.Proofs.YtfimjbflfkdkkaaDoor.Rows.markupAgainSpec.pre enc Go.Proofs.Tryd.prog Go.Proofs.Tryd.f4 [] false w args ∧ laidMetH Go.Proofs.Tryd.prog laidL w) ∧ sizedMet enc Go.Proofs.Tryd.prog Go.Proofs.Tryd.f4 (OpenSpec.ofChange Go.Proofs.YtfimjbflfkdkkaaDoor.Rows.markupAgainSpec) false w args)
      (Go.Proofs.YtfimjbflfkdkkaaDoor.Rows.markupAgainSpec.post enc Go.Proofs.Tryd.prog Go.Proofs.Tryd.f4 false true false false) := by
  refine wrapped (C := Go.Proofs.Tryd.checked) (X := fun w _ => laidMetH Go.Proofs.Tryd.prog laidL w) (fun _ _ _ hh h => h.of_heap hh) own started (by kernel_rfl) Go.Proofs.Tryd.func4
    (ChangeSpec.witness_shaped (enc := enc) (C := Go.Proofs.Tryd.checked) (os := os) (X := fun w _ => laidMetH Go.Proofs.Tryd.prog laidL w) false (World.laidAll Go.Proofs.Tryd.prog os laidL) #[.string ⟨#[]⟩] 8 (World.laidAll_os _ _ _)
      (World.shaped_of_ZipB (by kernel_rfl) (by kernel_rfl)) (by kernel_rfl) (by kernel_rfl) (by kernel_rfl)
      (by rw [MakeChecks.laidMetH_plain _ _ _ (by kernel_rfl)]; exact laidMet_laidAll _ (by kernel_rfl) (by kernel_rfl))) ?_
  intro W base args ds gs before hval0 hW hwt hL hsh
  have hW' := hW
  obtain ⟨p, q, hA0, hV, rfl, _, _⟩ := hW
  have hA : DataW.TrodAll enc Go.Proofs.Tryd.prog W 0 (fun _ => true) true Go.Proofs.Tryd.f4.params.toList args.toList ds p := hA0
  rw [Go.Proofs.Tryd.params4] at hA
  obtain ⟨v0, d0, rfl, rfl, h0⟩ := trodAll_one hA
  obtain ⟨rfl, rfl⟩ := trodVars_none hV
  have h0k := h0
  obtain ⟨fuel, hf⟩ := h0
  clear hA0
  simp only [List.append_nil] at hW'
  have hlt : ∀ x ∈ p, x.block < W.heap.size := fun x hx => by simpa using hW'.lt x hx
  obtain ⟨s, hs, _, _⟩ := DataW.trod_string Go.Proofs.Tryd.underlying9 hf
  have hval : Value.okWide Go.Proofs.Tryd.prog W .any base 9 v0 := hval0 0 9 v0 (by rw [Go.Proofs.Tryd.params4]; rfl) rfl
  obtain ⟨s2, hs2⟩ : ∃ s2, v0 = .string s2 := by
    cases v0 with
    | string s2 => exact ⟨s2, rfl⟩
    | agg vs =>
      simp only [Value.okWide, Go.Proofs.Tryd.underlying9] at hval
      obtain ⟨x, hx⟩ := hval
    | _ => simp [Value.cells] at hs
  have hv0 : v0 = .string s := by
    subst hs2
    have e : [Value.string s2] = [.string s] := hs
    rw [(List.cons.inj e).1]
  subst hv0
  obtain ⟨m, hr⟩ := HR0 hL hsh
  refine ((MarkupAgain_ok (G0_ok m) s.data.toList (fun _ => none)).2 W _ #[.string s] hr rfl (fun j v d hj hd => ?_)).mono fun e W' he => ?_
  · match j with
    | 0 => simp at hj hd; subst hj; subst hd; exact .str _ _ rfl
    | j + 1 => simp at hd
  · cases e with
    | returned v =>
      obtain ⟨d, H', Z', ⟨rfl, rfl⟩, hvd, _, hx⟩ := he
      have hnx : Below W.heap.size W W' := ⟨hx.os, hx.tape, hx.output, hx.size, fun k hk => (hx.imm k hk).2.2⟩
      have hvv : v = .bool true := hvd.bool_inv
      subst hvv
      have hargs : DataW.Trod enc Go.Proofs.Tryd.prog W' 0 (fun b => decide (b < W.heap.size)) true 9 (.string s) d0 p := Below.trod laidOut (by kernel_rfl) (of_decide_eq_true (by kernel_rfl)) h0k hnx hlt
      exact ⟨_, rfl, _, _, _, [], _, [], hW', trodAll_mk1 (shut_bool Go.Proofs.Tryd.underlying4 true), trodAll_mk1 hargs, rfl, hnx.frame _, fun h => by cases h⟩
    | panicked ch => obtain ⟨_, _, _, _, _, h, _⟩ := he; exact h.elim
    | outgrown => exact he.elim

theorem again_holds : Go.Proofs.YtfimjbflfkdkkaaDoor.Rows.MarkupAgainSaid :=
  OpenClaim.holds_of_wide 4 Go.Proofs.Tryd.f4 rfl rfl rfl rfl rfl rfl rfl ⟨rfl, rfl, rfl, rfl, rfl⟩ rfl rfl rfl rfl rfl (by kernel_rfl) Go.Proofs.Tryd.func4 (by kernel_rfl)
    (of_decide_eq_true (by kernel_rfl)) (by unfold Func.isWrapper; first | (rw [if_pos (by decide +kernel)]; kernel_rfl) | (rw [if_neg (by decide +kernel)]; exact ⟨rfl, rfl⟩))
    (fun os started H enc _ => again_lifted os started H enc)
end Go.Run.Tryd
