/- The card of MarkupBoth. -/
import Derived.Test.YthmjdmianbobbaaGreatDoorVL
import Derived.Test.YthmjdmianbobbaaGreatDoorCards
namespace Go.Proofs.YthmjdmianbobbaaGreatDoor
open Go
theorem markupBoth_card : Rows.MarkupBothCardSaid :=
 Claim7.holds_tied_plain_at .later [] [.data, .listed, .data, .pinned] true (true, "5b73de2f7c9530c6751e7c8263d50925864ef6655fc6ad7e12e4680f3ab8aa55") true Go.Run.Tryz.back_holds (fun _ h => by cases h) (by kernel_rfl) (fun _ h => by cases h) markupBoth_row_tie rfl ⟨rfl, rfl⟩ (by kernel_rfl) rfl
  (fun f fn hf hfn => by
   obtain rfl : f = 4 := Option.some.inj ((show (Go.Proofs.Tryz.prog).funcNamed "cardcase/cardcaselaw16.MarkupBoth" = some 4 by kernel_rfl).symm.trans hf) |>.symm
   obtain rfl : fn = Go.Proofs.Tryz.f4 := (Option.some.inj (Go.Proofs.Tryz.func4.symm.trans hfn)).symm
   exact ⟨by kernel_rfl, fun j t ht => by
    rw [Go.Proofs.Tryz.params4] at ht
    have hm : t ∈ [24] := by simpa using Array.mem_of_getElem? ht
    have hall : ([24].all fun u => !(Go.Proofs.Tryz.prog).wantsStandIn u) = true := by kernel_rfl
    exact (show (Go.Proofs.Tryz.prog).wantsStandIn t = false by simpa using List.all_eq_true.1 hall t hm)⟩)
  (by kernel_rfl)
#print axioms markupBoth_card
end Go.Proofs.YthmjdmianbobbaaGreatDoor
